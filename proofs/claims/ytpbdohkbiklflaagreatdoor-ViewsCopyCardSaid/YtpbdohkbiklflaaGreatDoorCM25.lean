import Derived.Test.YtpbdohkbiklflaaGreatDoorCM23
set_option linter.unusedVariables false
set_option linter.unusedSimpArgs false
set_option linter.unusedSectionVars false
namespace Go.Proofs.YtpbdohkbiklflaaGreatDoor
open Go.TM
variable [cG]
set_option maxRecDepth 100000
def aL (s:Vs) (es:HM):Vs:=es.foldl (fun s e=>cQ s e.1 e.1.2.toNat e.2) s
def DK (H:HM) (e:Ky × Int):Int:=bif bif decide (hv H e.1=0) then !(decide (e.2=0)) else false then 1 else bif bif !(decide (hv H e.1=0)) then decide (e.2=0) else false then -1 else 0
def ja (H:HM) (es:HM):Int:=(es.map (DK H)).foldr (·+·) 0
def fU (s:Vs) (es:HM):Bool:=es.any fun e=>cA s e.1 e.2
def dz (s:Vs) (S:SS) (j:Nat):List (Bool × List Sl):=(List.range 4).map fun i=>((s.sl.getD i (true,[])).1,bI (S.drop j) i)
def dp (s:Vs) (S:SS) (lv:Nat):Vs:={ s with sl:=dz s S lv,bH:=s.bH.drop lv,work:=s.work+lv }
def O7 (s:Vs) (S:SS) (lv:Nat) (XD:Bool) (it:Nat) (tick n c:Int):Vs :=
 let s2:=dp s S lv
 let s3:=bif XD then rN s2 it (bI (S.drop lv) it) tick n c else s2
 {s3 with last:=tick }
inductive We where
 | err (e:Int)
 | ok (A:HM)
def MN (s:Vs) (S:SS) (st:St):Int:=(s.H.length:Int)+(s.bH.length:Int) - (dC S (st.tick - s.ab):Int)+(bif (bh s.coin st).2.2.2 then 1 else 0)
def ez (s:Vs) (S:SS) (st:St):We :=
 if (bif decide (st.tick<s.last) then true else decide (1099511627776<st.tick))=true then .err 1 else
 match kR s.H [] st.mv with
 | .err e=>.err e
 | .ok A=>if s.aE<MN s S st+ja s.H A then .err 22 else .ok A
def cN (s:Vs) (S:SS) (st:St) (s1:Vs):Vs:=O7 s1 S (dC S (st.tick - s.ab)) (bh s.coin st).2.2.2 (bh s.coin st).1.toNat st.tick (bh s.coin st).2.1 (bh s.coin st).2.2.1
def mn (s:Vs) (S:SS) (st:St):We→List AV→aj→Prop
 | .err e,rs,k=>rs=[.dv (I e)]∧k=vK false s
 | .ok A,rs,k=>∃done:HM,done.Perm A∧rs=[.dv (I 0)]∧k=x9 (fU s A) (decide (0<dC S (st.tick - s.ab)) || (bh s.coin st).2.2.2) true (cN s S st (aL s done))
def XE (st:St):ar:=.cells [.dv (I st.id),.dv (I st.kind),.dv (I st.Ij),.dv (I st.tick),.dv (I st.O0),.dv (I st.times),.dv (Bu st.mv)]
theorem mo (x:Int):(I x).bl:=by
 intro d hd
 simp [DV.cells] at hd; subst hd; rfl
theorem cW {α β:Type} {f:α→β}:∀(l:List α) (i:Nat),(l.map f).eraseIdx i=(l.eraseIdx i).map f
 | [],_=>rfl
 | _::_,0=>rfl
 | x::l,i+1=>by simp only [List.map_cons,List.eraseIdx_cons_succ]; rw [cW l i]
theorem qp (H:HM) {e:Ky × Int}:∀{l:HM} {i:Nat},l[i]?=some e→ja H l=DK H e+ja H (l.eraseIdx i)
 | [],_,h=>by simp at h
 | x::l,0,h=>by simp at h; subst h; rfl
 | x::l,i+1,h=>by
  have:=qp H (l:=l) (i:=i) (by simpa using h)
  show DK H x+ja H l=DK H e+(DK H x+ja H (l.eraseIdx i))
  omega
theorem eN {α:Type} {l:List α} {i:Nat} {e:α} (h:l[i]?=some e):(l.eraseIdx i).length+1=l.length:=by
 have:=(List.getElem?_eq_some_iff.1 h).1
 rw [List.length_eraseIdx,if_pos this]; omega
structure XF where
 left:HM
 sz:Int
def Y5 (s:Vs) (st:St) (A:HM) (it n c:Int) (b:Bool) (lv:Nat) (z:XF):aY:=⟨10,[(0,.ptr 0 0),(3,.ptr 6 0),(5,.own 8 0 0 []),(7,.dv (I it)),(8,.dv (I n)),(9,.dv (I c)),(10,.dv (B b)),(11,.dv (I lv)),(12,.dv (I z.sz)),(62,.ptr 9 0)],vK false s++[(6,XE st),(8,.held),(9,.jw 8 [] (.omap dw (A.map ni)) (z.left.map ni) none)]⟩
theorem JN (s:Vs) (k:Ky) (i:Nat) (x:Int):(cQ s k i x).bH=s.bH:=by
 unfold cQ; split <;> (try rfl) <;> (simp only; split <;> rfl)
theorem O8 (s:Vs) (k:Ky) (i:Nat) (x:Int):(cQ s k i x).sl=s.sl:=by
 unfold cQ; split <;> (try rfl) <;> (simp only; split <;> rfl)
theorem j6 (s:Vs) (es:HM):(aL s es).bH=s.bH:=by
 unfold aL
 induction es generalizing s with
 | nil=>rfl
 | cons e r ih=>rw [List.foldl_cons,ih,JN]
theorem nZ (s:Vs) (es:HM):(aL s es).sl=s.sl:=by
 unfold aL
 induction es generalizing s with
 | nil=>rfl
 | cons e r ih=>rw [List.foldl_cons,ih,O8]
theorem oV (s:Vs) (k:Ky) (i:Nat) (x:Int):s.work≤(cQ s k i x).work∧(cQ s k i x).work≤s.work+1:=by
 unfold cQ; split
 ·omega
 ·simp only; split <;> (simp only; omega)
theorem mq (s:Vs) (es:HM):s.work≤(aL s es).work∧(aL s es).work≤s.work+es.length:=by
 unfold aL
 induction es generalizing s with
 | nil=>simp
 | cons e r ih =>
  rw [List.foldl_cons]
  have h1:=ih (cQ s e.1 e.1.2.toNat e.2)
  have h2:=oV s e.1 e.1.2.toNat e.2
  simp only [List.length_cons]
  omega
theorem DL {α:Type} {l r:List α} (h:l.Perm r) (p:α→Bool):l.any p=r.any p:=by
 induction h with
 | nil=>rfl
 | cons x _ ih=>simp [ih]
 | swap x y l=>simp [Bool.or_left_comm]
 | trans _ _ ih1 ih2=>exact ih1.trans ih2
theorem MO {a b:List (Bool × List Sl)} (ha:a.length=4) (hb:b.length=4) (h:∀i,i<4→a[i]?=b[i]?):a=b:=by
 apply List.ext_getElem?
 intro i
 rcases Nat.lt_or_ge i 4 with h4 | h4
 ·exact h i h4
 ·rw [List.getElem?_eq_none (by omega),List.getElem?_eq_none (by omega)]
theorem ct (s:Vs) (S:SS) (j:Nat):(dz s S j).length=4:=by simp [dz]
theorem iN (s:Vs) (S:SS) (j i:Nat) (hi:i<4):(dz s S j)[i]?=some ((s.sl.getD i (true,[])).1,bI (S.drop j) i):=by
 unfold dz; rw [List.getElem?_map,List.getElem?_range hi]; rfl
theorem zG {s:Vs} {S:SS} (h:oS s S):dz s S 0=s.sl:=by
 refine MO (ct ..) h.Kp fun i hi=>?_
 rw [iN _ _ _ _ hi]
 have hl:i<s.sl.length:=by rw [h.Kp]; exact hi
 have hx:=List.getElem?_eq_getElem hl
 rw [List.getD_eq_getElem?_getD,hx]
 generalize s.sl[i]=q at hx
 obtain ⟨f,l⟩:=q
 have:=h.sl _ _ _ hx
 rw [this]; rfl
theorem xm {S:SS} {j i:Nat} {x:Sl} (h:S[j]?=some (i,x)) (k:Nat):bI (S.drop j) k=if i=k then x::bI (S.drop (j+1)) k else bI (S.drop (j+1)) k:=by
 have aK:=(List.getElem?_eq_some_iff.1 h).1
 have aB:S.drop j=(i,x)::S.drop (j+1):=by rw [List.drop_eq_getElem_cons aK]; congr 1; rw [List.getElem?_eq_getElem aK] at h; injection h
 rw [aB]
 unfold bI
 by_cases hk:i=k
 ·subst hk; simp
 ·simp [hk]
theorem oW {s:Vs} {S:SS} (h:oS s S) {j i:Nat} {x:Sl} (hx:S[j]?=some (i,x)):(dz s S j)[i]?=some (false,x::bI (S.drop (j+1)) i)∧dz s S (j+1)=(dz s S j).set i (false,bI (S.drop (j+1)) i):=by
 have SF:i<4:=h.it _ (List.mem_of_getElem? hx)
 have hl:i<s.sl.length:=by rw [h.Kp]; exact SF
 have hg:=List.getElem?_eq_getElem hl
 have hf:(s.sl.getD i (true,[])).1=false:=by
  rw [List.getD_eq_getElem?_getD,hg]
  generalize s.sl[i]=q at hg
  obtain ⟨f,l⟩:=q
  cases f with
  | false=>rfl
  | true =>
   have h1:=h.sl _ _ _ hg
   rw [h.sf _ _ _ hg rfl] at h1
   have h2:=xm hx i
   have hm:x∈bI S i:=by
    unfold bI
    exact List.mem_map.2 ⟨(i,x),List.mem_filter.2 ⟨List.mem_of_getElem? hx,by simp⟩,rfl⟩
   rw [←h1] at hm
   cases hm
 constructor
 ·rw [iN _ _ _ _ SF,hf,xm hx,if_pos rfl]
 ·refine MO (ct ..) (by rw [List.length_set]; exact ct ..) fun k hk=>?_
  rw [iN _ _ _ _ hk]
  by_cases zv:i=k
  ·subst zv
   rw [List.getElem?_set_self (by rw [ct]; exact SF),hf]
  ·rw [List.getElem?_set_ne zv,iN _ _ _ _ hk,xm hx,if_neg zv]
structure XG where
 left:HM
 done:HM
 f:Bool
theorem qq {α:Type}:∀{l:List α} {i:Nat} {x:α},l[i]?=some x→l.Perm (x::l.eraseIdx i)
 | [],i,x,h=>by simp at h
 | y::l,0,x,h=>by simp at h; subst h; simp
 | y::l,i+1,x,h=>by
  simp only [List.getElem?_cons_succ] at h
  simp only [List.eraseIdx_cons_succ]
  exact ((qq h).cons y).trans (List.Perm.swap x y _)
def Y6 (s:Vs) (st:St) (A:HM) (it n c:Int) (b:Bool) (lv:Nat) (z:XG):aY:=⟨11,[(0,.ptr 0 0),(3,.ptr 6 0),(7,.dv (I it)),(8,.dv (I n)),(9,.dv (I c)),(10,.dv (B b)),(11,.dv (I lv)),(97,.ptr 10 0)],vK z.f (aL s z.done)++[(6,XE st),(8,.held),(10,.jw 8 [] (.omap dw (A.map ni)) (z.left.map ni) none)]⟩
structure UW where
 j:Nat
 h:Bool
def Wf (s s1:Vs) (S:SS) (st:St) (it n c:Int) (b:Bool) (lv:Nat) (f:Bool) (z:UW):aY:=⟨11,[(0,.ptr 0 0),(3,.ptr 6 0),(7,.dv (I it)),(8,.dv (I n)),(9,.dv (I c)),(10,.dv (B b)),(11,.dv (I lv)),(112,.pre 5 0 0 [] 1 0 lv),(113,.dv (I lv)),(114,.dv (I z.j))],x9 f z.h false { s1 with sl:=dz s S z.j }++[(6,XE st)]⟩
theorem xp (m:HM) (k:Ky) (x:Int):(bT m k x).length≤m.length+1:=by
 induction m with
 | nil=>simp [bT]
 | cons p r ih =>
  simp only [bT]
  split
  ·simp
  ·simp only [List.length_cons]; omega
theorem u7 {H:HM}:∀{l:List Mv} {m A:HM},kR H m l=.ok A→A.length≤m.length+2 * l.length
 | [],m,A,h=>by simp only [kR] at h; injection h with h; subst h; simp
 | v::r,m,A,h=>by
  simp only [kR] at h
  split at h
  ·cases h
  have hp:∀m1:HM,(if v.t ≠ 0 then bT m1 (v.t,v.it) (hold m1 H (v.t,v.it)+v.n) else m1).length≤m1.length+1:=by
   intro m1; split
   ·exact xp ..
   ·omega
  split at h
  ·split at h
   ·cases h
   ·have h1:=u7 h
    have h2:=hp (bT m (v.f,v.it) (hold m H (v.f,v.it) - v.n))
    have h3:=xp m (v.f,v.it) (hold m H (v.f,v.it) - v.n)
    simp only [List.length_cons]
    omega
  ·have h1:=u7 h
   have h2:=hp m
   simp only [List.length_cons]
   omega
theorem BB {H:HM}:∀{l:List Mv} {m:HM} {e:Int},kR H m l=.err e→e ≠ 0
 | [],m,e,h=>by simp only [kR] at h; cases h
 | v::r,m,e,h=>by
  simp only [kR] at h
  split at h
  ·injection h with h; omega
  split at h
  ·split at h
   ·injection h with h; omega
   ·exact BB h
  ·exact BB h
theorem mr {S:SS} {i:Nat} (h:bI S i=[]) (j:Nat):bI (S.drop j) i=[]:=by
 cases hq:bI (S.drop j) i with
 | nil=>rfl
 | cons x r =>
  have hm:x∈bI (S.drop j) i:=by rw [hq]; exact List.mem_cons_self
  unfold bI at hm
  obtain ⟨p,h1,h2⟩:=List.mem_map.1 hm
  obtain ⟨h3,h4⟩:=List.mem_filter.1 h1
  have h5:x∈bI S i:=by
   unfold bI
   exact List.mem_map.2 ⟨p,List.mem_filter.2 ⟨List.mem_of_mem_drop h3,h4⟩,h2⟩
  rw [h] at h5; cases h5
set_option maxHeartbeats 4000000 in
theorem JO (s:Vs) (S:SS) (h:oS s S) (st:St) (hl:st.mv.length≤1000) (hH:∀k,0≤hv s.H k∧hv s.H k≤1152921504606846976) (aU:s.H.length≤100000) (hw:1≤s.ab∧s.ab≤1099511627776) (kX:0≤s.last) (SG:0≤s.work∧s.work≤1152921504606846976) (UX:∀j i,0≤js (bI (S.drop j) i)∧js (bI (S.drop j) i)≤1152921504606846976∧0≤jt (bI (S.drop j) i)∧jt (bI (S.drop j) i)≤1152921504606846976)
  (QH:∀A it n c,kR s.H [] st.mv=.ok A→bh s.coin st=(it,n,c,true)→0≤it∧it<4∧1≤n∧n≤1099511627776∧1≤c∧c≤1099511627776)
  (jn:∀A,kR s.H [] st.mv=.ok A→∀done k now left,(done++(k,now)::left).Perm A→∃i:Nat,MA (aL s done) k i now∧cA (aL s done) k now=cA s k now) :
  dR Tryz.prog 21 [.ptr 0 0,zC st] 6 (vK false s) 9 (mn s S st (ez s S st)):=by
 refine y2 aD mixed (af _) (ai _) Tryz.func21 rfl rfl (by kernel_rfl) ?_
 repeat first | refine ⟨id,?_⟩ | refine ⟨fun _ h=>bW h,?_⟩ | refine ⟨fun _ h=>ay h,?_⟩ | refine ⟨fun h=>⟨h,fun h2=>aF h h2⟩,?_⟩ | refine ⟨fun h=>⟨h,fun h2=>aA h h2⟩,?_⟩
 refine ⟨by kernel_rfl,fun hc=>?_,fun hc=>?_⟩
 ·have hr:ez s S st=.err 1:=by unfold ez; rw [if_pos hc]
  rw [hr]
  exact ⟨_,_,⟨rfl,rfl⟩,by kernel_rfl,⟨rf,tv⟩,⟨rf,rf,rf,rf,rf,rf,rfl,rfl,rfl,rfl,rfl,tv⟩,⟨rfl,rfl⟩,⟨rfl,rfl⟩,⟨rfl,rfl⟩,⟨rfl,rfl⟩,⟨rfl,rfl⟩,tv⟩
 have JG:s.last≤st.tick∧st.tick≤1099511627776:=by
  simp only [Bool.cond_true_left,Bool.or_eq_false_iff,decide_eq_false_iff_not] at hc; omega
 have Wg:=Bt s S h st.tick (by omega)
 have hss:=s6 s (by rw [h.bH,List.length_map]; have:=h.len; omega)
 have uK:=O1 s st.mv hl hH
 have r9:ez s S st=match kR s.H [] st.mv with
  | .err e=>.err e
  | .ok A=>if s.aE<MN s S st+ja s.H A then .err 22 else .ok A:=by
  unfold ez; rw [if_neg (by rw [hc]; simp)]
 cases hA:kR s.H [] st.mv with
 | err e =>
  rw [hA] at uK r9
  simp only at r9
  have Om:e ≠ 0:=BB hA
  refine .inr ⟨[0,1,2,3,4,5],[.ptr 0 0,.dv (Bu st.mv)],vK false s,2,_,_,uK,by kernel_rfl,by kernel_rfl,⟨rfl,rf,tv⟩,⟨⟨rf,rf,rf,rf,rf,rf,rfl,rfl,rfl,rfl,rfl,tv⟩,⟨rfl,rfl⟩,⟨rfl,rfl⟩,⟨rfl,rfl⟩,⟨rfl,rfl⟩,⟨rfl,rfl⟩,tv⟩,?_⟩
  refine ⟨fun _=>?_,fun h9=>absurd h9 (by simpa using Om)⟩
  rw [r9]
  exact ⟨_,_,⟨rfl,rfl⟩,by kernel_rfl,⟨rf,tv⟩,⟨rf,rf,rf,rf,rf,rf,rfl,rfl,rfl,rfl,rfl,tv⟩,⟨rfl,rfl⟩,⟨rfl,rfl⟩,⟨rfl,rfl⟩,⟨rfl,rfl⟩,⟨rfl,rfl⟩,tv⟩
 | ok A =>
  rw [hA] at uK r9
  simp only at r9
  refine .inr ⟨[0,1,2,3,4,5],[.ptr 0 0,.dv (Bu st.mv)],vK false s,2,_,_,uK,by kernel_rfl,by kernel_rfl,⟨rfl,rf,tv⟩,⟨⟨rf,rf,rf,rf,rf,rf,rfl,rfl,rfl,rfl,rfl,tv⟩,⟨rfl,rfl⟩,⟨rfl,rfl⟩,⟨rfl,rfl⟩,⟨rfl,rfl⟩,⟨rfl,rfl⟩,tv⟩,?_⟩
  refine ⟨fun h9=>by simp at h9,fun _=>?_⟩
  have XH:=Dx s st
  generalize Im:bh s.coin st=sa at *
  obtain ⟨it,n,c,b⟩:=sa
  refine .inr ⟨[0,1,2,3,4,5],[.ptr 0 0,zC st],vK false s,0,_,_,XH,by kernel_rfl,by kernel_rfl,⟨rfl,⟨rf,rf,rf,rf,rf,rf,rf,tv⟩,tv⟩,⟨⟨rf,rf,rf,rf,rf,rf,rfl,rfl,rfl,rfl,rfl,tv⟩,⟨rfl,rfl⟩,⟨rfl,rfl⟩,⟨rfl,rfl⟩,⟨rfl,rfl⟩,⟨rfl,rfl⟩,tv⟩,?_⟩
  refine .inr ⟨[0,1,2,3,4,5],[.ptr 0 0,.dv (I st.tick)],vK false s,0,_,_,Wg,by kernel_rfl,by kernel_rfl,⟨rfl,rf,tv⟩,⟨⟨rf,rf,rf,rf,rf,rf,rfl,rfl,rfl,rfl,rfl,tv⟩,⟨rfl,rfl⟩,⟨rfl,rfl⟩,⟨rfl,rfl⟩,⟨rfl,rfl⟩,⟨rfl,rfl⟩,tv⟩,?_⟩
  refine .inr ⟨[0,1,2,3,4,5],[.ptr 0 0],vK false s,0,_,_,hss,by kernel_rfl,by kernel_rfl,⟨rfl,tv⟩,⟨⟨rf,rf,rf,rf,rf,rf,rfl,rfl,rfl,rfl,rfl,tv⟩,⟨rfl,rfl⟩,⟨rfl,rfl⟩,⟨rfl,rfl⟩,⟨rfl,rfl⟩,⟨rfl,rfl⟩,tv⟩,?_⟩
  have aae:dC S (st.tick - s.ab)≤1000:=Nat.le_trans (by unfold dC; exact (List.takeWhile_sublist _).length_le) h.len
  have aaf:s.bH.length≤1000:=by rw [h.bH,List.length_map]; exact h.len
  refine ⟨fun _=>⟨by omega,by omega⟩,?_⟩
  have Y7:A.length≤100000:=by have:=u7 hA; simp only [List.length_nil] at this; omega
  generalize pe:dC S (st.tick - s.ab)=lv at *
  cases b
  ·refine ⟨fun hb=>(by cases hb),fun _=>?_⟩
   obtain ⟨z0,EL⟩:∃z0:Int,(s.H.length:Int)+(s.bH.length:Int) - (lv:Int)=z0:=⟨_,rfl⟩
   have XI:MN s S st=z0:=by unfold MN; rw [Im,pe]; simp only [cond_false,Int.add_zero]; exact EL
   have OR:-1000≤z0∧z0≤1000000:=by omega
   rw [XI] at r9
   refine ⟨XF,Y5 s st A it n c false lv,fun z=>z.sz+ja s.H z.left=z0+ja s.H A∧z0 - ((A.length:Int) - (z.left.length:Int))≤z.sz∧z.sz≤z0+((A.length:Int) - (z.left.length:Int))∧z.left.length≤A.length,fun z=>z.left.length,⟨A,z0⟩,fun _=>rfl,?_,?_,?_⟩
   ·exact ⟨⟨rfl,rfl,rfl,rf,rf,rf,rf,rf,au EL,rfl,tv⟩,⟨⟨rf,rf,rf,rf,rf,rf,rfl,rfl,rfl,rfl,rfl,tv⟩,⟨rfl,rfl⟩,⟨rfl,rfl⟩,⟨rfl,rfl⟩,⟨rfl,rfl⟩,⟨rfl,rfl⟩,⟨rf,rf,rf,rf,rf,rf,rf,tv⟩,tv,⟨rfl,rfl,rfl,rfl,.inl rfl,tv⟩,tv⟩,rfl,rfl⟩
   ·exact ⟨rfl,by simp only; omega,by simp only; omega,Nat.le_refl _⟩
   ·rintro ⟨left,sz⟩ ⟨h1,h2,h3,h4⟩
    simp only at h1 h2 h3 h4
    refine ⟨tv,fun h5=>⟨(fun h6=>by cases h6),fun _=>?_⟩,fun pos cc il=>⟨fun _=>?_,fun h6=>by cases h6⟩⟩
    ·have hz:left=[]:=by simpa using h5
     subst hz
     have XJ:sz=z0+ja s.H A:=by have:ja s.H []=0:=rfl; omega
     refine ⟨fun hq=>?_,fun hq=>?_⟩
     ·have hq:s.aE<sz:=of_decide_eq_true hq
      rw [if_pos (by omega)] at r9
      rw [r9]
      exact ⟨_,_,⟨rfl,rfl⟩,by kernel_rfl,⟨rf,tv⟩,⟨rf,rf,rf,rf,rf,rf,rfl,rfl,rfl,rfl,rfl,tv⟩,⟨rfl,rfl⟩,⟨rfl,rfl⟩,⟨rfl,rfl⟩,⟨rfl,rfl⟩,⟨rfl,rfl⟩,tv⟩
     have hq:¬ s.aE<sz:=of_decide_eq_false hq
     rw [if_neg (by omega)] at r9
     rw [r9]
     refine ⟨XG,Y6 s st A it n c false lv,fun z=>(z.done++z.left).Perm A∧z.f=fU s z.done,fun z=>z.left.length,⟨A,[],false⟩,fun z=>by obtain ⟨z1,z2,z3⟩:=z; cases z3 <;> rfl,?_,?_,?_⟩
     ·exact ⟨⟨rfl,rfl,rf,rf,rf,rf,rf,rfl,tv⟩,⟨⟨rf,rf,rf,rf,rf,rf,rfl,rfl,rfl,rfl,rfl,tv⟩,⟨rfl,rfl⟩,⟨rfl,rfl⟩,⟨rfl,rfl⟩,⟨rfl,rfl⟩,⟨rfl,rfl⟩,⟨rf,rf,rf,rf,rf,rf,rf,tv⟩,tv,⟨rfl,rfl,rfl,rfl,.inl rfl,tv⟩,tv⟩,rfl,rfl⟩
     ·exact ⟨List.Perm.refl _,rfl⟩
     ·rintro ⟨left,done,f⟩ ⟨g1,g2⟩
      simp only at g1 g2
      refine ⟨tv,fun h5=>⟨(fun h6=>by cases h6),fun _=>?_⟩,fun pos cc il=>⟨fun _=>?_,fun h6=>by cases h6⟩⟩
      ·have hz:left=[]:=by simpa using h5
       subst hz
       have k1:(aL s done).bH=s.bH:=j6 s done
       have k2:(aL s done).sl=s.sl:=nZ s done
       have k3:s.bH.length=S.length:=by rw [h.bH,List.length_map]
       have k4:lv≤S.length:=by rw [←pe]; unfold dC; exact (List.takeWhile_sublist _).length_le
       have k5:f=fU s A:=by rw [g2]; unfold fU; exact DL (by simpa using g1) _
       have k6:done.Perm A:=by simpa using g1
       have k8:=mq s done
       have k9:done.length≤100000:=by rw [k6.length_eq]; exact Y7
       generalize fh:aL s done=s1 at *
       have UY:dz s S 0=s1.sl:=by rw [k2]; exact zG h
       cases f
       ·refine .inr (.inl ⟨fun _=>⟨by simp,by simp,by simp only [k1,List.length_map,Option.getD_some]; omega⟩,?_⟩)
        refine ⟨UW,Wf s s1 S st it n c false lv false,fun z=>z.j≤lv∧z.h=decide (0<z.j),fun z=>lv - z.j,⟨0,false⟩,fun z=>by obtain ⟨z1,z2⟩:=z; cases z2 <;> rfl,?_,?_,?_⟩
        ·exact ⟨⟨rfl,rfl,rf,rf,rf,rf,rf,rfl,rf,rf,tv⟩,⟨⟨rf,rf,rf,rf,rf,rf,rfl,rfl,rfl,rfl,rfl,tv⟩,⟨rfl,rfl⟩,⟨rfl,rfl⟩,⟨rfl,rfl⟩,⟨rfl,by rw [UY]⟩,⟨rfl,rfl⟩,⟨rf,rf,rf,rf,rf,rf,rf,tv⟩,tv⟩,rfl,rfl⟩
        ·exact ⟨Nat.zero_le _,rfl⟩
        ·rintro ⟨j,hh⟩ ⟨q1,q2⟩
         simp only at q1 q2
         refine ⟨fun aK=>?_,fun dy=>?_⟩
         ·have aK:j<lv:=by have:=of_decide_eq_true aK; simp only [Int.ofNat_lt] at this; exact this
          obtain ⟨⟨i4,x0⟩,kF⟩:∃q,S[j]?=some q:=⟨_,List.getElem?_eq_getElem (by omega)⟩
          have SF:i4<4:=h.it _ (List.mem_of_getElem? kF)
          have oT:(s1.bH.map I)[0+((j:Int)).toNat]?=some (I (i4:Int)):=by rw [k1,h.bH,List.map_map,List.getElem?_map,Nat.zero_add,Int.toNat_natCast,kF]; rfl
          obtain ⟨e1,e2⟩:=oW h kF
          have gS:((dz s S j).map kj)[((i4:Int)).toNat]?=some (.aw 5 (bQ x0::(bI (S.drop (j+1)) i4).map bQ)):=by rw [List.getElem?_map,Int.toNat_natCast,e1]; rfl
          refine ⟨fun _=>⟨by simp only; omega,by simp only; omega⟩,I (i4:Int),fun _=>oT,?_⟩
          have eB:(0:Int)≤(i4:Int)∧(i4:Int)<(((dz s S j).map kj).length:Int):=⟨by omega,by rw [List.length_map,ct]; omega⟩
          have b4:DV.aw 1 ((((dz s S j).map kj).set ((i4:Int)).toNat .any).set ((i4:Int)).toNat (.aw 5 ((bI (S.drop (j+1)) i4).map bQ)))=.aw 1 ((dz s S (j+1)).map kj):=by
           rw [List.set_set,Int.toNat_natCast,e2,List.map_set]; rfl
          have xq:DV.aw 5 (List.drop 1 (List.take ((((bQ x0::(bI (S.drop (j+1)) i4).map bQ).length:Nat):Int)).toNat (bQ x0::(bI (S.drop (j+1)) i4).map bQ)))=DV.aw 5 ((bI (S.drop (j+1)) i4).map bQ):=by
           rw [Int.toNat_natCast,List.take_length]; rfl
          cases hh
          ·refine ⟨fun _=>eB,.aw 5 (bQ x0::(bI (S.drop (j+1)) i4).map bQ),fun _=>gS,?_⟩
           refine .inr (.inr ⟨.aw 5 (bQ x0::(bI (S.drop (j+1)) i4).map bQ),fun _=>gS,⟨by simp,by simp; omega,by simp⟩,?_⟩)
           refine ⟨.aw 5 (bQ x0::(bI (S.drop (j+1)) i4).map bQ),gS,?_⟩
           refine ⟨fun _=>by rw [List.length_set]; exact eB,[.aw 5 ((bI (S.drop (j+1)) i4).map bQ)],⟨xq,tv⟩,.any,List.getElem?_set_self (by rw [List.length_map,ct]; omega),?_⟩
           refine ⟨by kernel_rfl,fun _=>⟨by simp only; omega,by simp only; omega⟩,⟨j+1,true⟩,⟨⟨rfl,rfl,rf,rf,rf,rf,rf,rfl,rf,au (by simp),tv⟩,⟨⟨rf,rf,rf,rf,rf,rf,rfl,rfl,rfl,rfl,rfl,tv⟩,⟨rfl,rfl⟩,⟨rfl,rfl⟩,⟨rfl,rfl⟩,⟨rfl,b4⟩,⟨rfl,rfl⟩,⟨rf,rf,rf,rf,rf,rf,rf,tv⟩,tv⟩,rfl,rfl⟩,⟨by simp only; omega,by simp⟩,by simp only; omega⟩
          ·refine ⟨fun _=>eB,.aw 5 (bQ x0::(bI (S.drop (j+1)) i4).map bQ),fun _=>gS,?_⟩
           refine .inr (.inr ⟨.aw 5 (bQ x0::(bI (S.drop (j+1)) i4).map bQ),fun _=>gS,⟨by simp,by simp; omega,by simp⟩,?_⟩)
           refine ⟨.aw 5 (bQ x0::(bI (S.drop (j+1)) i4).map bQ),gS,?_⟩
           refine ⟨fun _=>by rw [List.length_set]; exact eB,[.aw 5 ((bI (S.drop (j+1)) i4).map bQ)],⟨xq,tv⟩,.any,List.getElem?_set_self (by rw [List.length_map,ct]; omega),?_⟩
           refine ⟨by kernel_rfl,fun _=>⟨by simp only; omega,by simp only; omega⟩,⟨j+1,true⟩,⟨⟨rfl,rfl,rf,rf,rf,rf,rf,rfl,rf,au (by simp),tv⟩,⟨⟨rf,rf,rf,rf,rf,rf,rfl,rfl,rfl,rfl,rfl,tv⟩,⟨rfl,rfl⟩,⟨rfl,rfl⟩,⟨rfl,rfl⟩,⟨rfl,b4⟩,⟨rfl,rfl⟩,⟨rf,rf,rf,rf,rf,rf,rf,tv⟩,tv⟩,rfl,rfl⟩,⟨by simp only; omega,by simp⟩,by simp only; omega⟩
         ·have dy:j=lv:=by have:=of_decide_eq_false dy; simp only [Int.ofNat_lt] at this; omega
          subst dy
          have vT:DV.aw 1 (List.drop ((j:Int)).toNat (List.take (((s1.bH.map I).length:Nat):Int).toNat (s1.bH.map I)))=vK.gk (s1.bH.drop j):=by
           rw [Int.toNat_natCast,Int.toNat_natCast,List.take_length,←List.map_drop]; rfl
          refine .inl ⟨⟨by simp,by simp only [Option.getD_some,Option.getD_none,List.length_map,k1,k3]; omega,by simp⟩,fun _=>⟨by simp only; omega,by simp only; omega⟩,?_⟩
          refine ⟨(fun h9=>by cases h9),fun _=>?_⟩
          have k7:dz s1 S j=dz s S j:=by unfold dz; rw [k2]
          cases hh
          ·have s7:mn s S st (.ok A) [.dv (I 0)] (x9 false false true { dp s1 S j with last:=st.tick }):=by
            refine ⟨done,k6,rfl,?_⟩
            rw [fh,←k5,Im,pe,←q2]
            have h0:cN s S st s1={ dp s1 S j with last:=st.tick }:=by unfold cN; rw [Im,pe]; rfl
            rw [h0]; simp
           exact ⟨_,_,s7,by kernel_rfl,⟨rf,tv⟩,⟨rf,rf,rf,rf,rf,rf,rfl,rfl,rfl,rfl,rfl,tv⟩,⟨rfl,rfl⟩,⟨rfl,rfl⟩,⟨rfl,rfl⟩,⟨rfl,by rw [←k7]; rfl⟩,⟨rfl,vT⟩,tv⟩
          ·have s7:mn s S st (.ok A) [.dv (I 0)] (x9 false true true { dp s1 S j with last:=st.tick }):=by
            refine ⟨done,k6,rfl,?_⟩
            rw [fh,←k5,Im,pe,←q2]
            have h0:cN s S st s1={ dp s1 S j with last:=st.tick }:=by unfold cN; rw [Im,pe]; rfl
            rw [h0]; simp
           exact ⟨_,_,s7,by kernel_rfl,⟨rf,tv⟩,⟨rf,rf,rf,rf,rf,rf,rfl,rfl,rfl,rfl,rfl,tv⟩,⟨rfl,rfl⟩,⟨rfl,rfl⟩,⟨rfl,rfl⟩,⟨rfl,by rw [←k7]; rfl⟩,⟨rfl,vT⟩,tv⟩
       ·refine .inr (.inl ⟨fun _=>⟨by simp,by simp,by simp only [k1,List.length_map,Option.getD_some]; omega⟩,?_⟩)
        refine ⟨UW,Wf s s1 S st it n c false lv true,fun z=>z.j≤lv∧z.h=decide (0<z.j),fun z=>lv - z.j,⟨0,false⟩,fun z=>by obtain ⟨z1,z2⟩:=z; cases z2 <;> rfl,?_,?_,?_⟩
        ·exact ⟨⟨rfl,rfl,rf,rf,rf,rf,rf,rfl,rf,rf,tv⟩,⟨⟨rf,rf,rf,rf,rf,rf,rfl,rfl,rfl,rfl,rfl,tv⟩,⟨rfl,rfl⟩,⟨rfl,rfl⟩,⟨rfl,rfl⟩,⟨rfl,by rw [UY]⟩,⟨rfl,rfl⟩,⟨rf,rf,rf,rf,rf,rf,rf,tv⟩,tv⟩,rfl,rfl⟩
        ·exact ⟨Nat.zero_le _,rfl⟩
        ·rintro ⟨j,hh⟩ ⟨q1,q2⟩
         simp only at q1 q2
         refine ⟨fun aK=>?_,fun dy=>?_⟩
         ·have aK:j<lv:=by have:=of_decide_eq_true aK; simp only [Int.ofNat_lt] at this; exact this
          obtain ⟨⟨i4,x0⟩,kF⟩:∃q,S[j]?=some q:=⟨_,List.getElem?_eq_getElem (by omega)⟩
          have SF:i4<4:=h.it _ (List.mem_of_getElem? kF)
          have oT:(s1.bH.map I)[0+((j:Int)).toNat]?=some (I (i4:Int)):=by rw [k1,h.bH,List.map_map,List.getElem?_map,Nat.zero_add,Int.toNat_natCast,kF]; rfl
          obtain ⟨e1,e2⟩:=oW h kF
          have gS:((dz s S j).map kj)[((i4:Int)).toNat]?=some (.aw 5 (bQ x0::(bI (S.drop (j+1)) i4).map bQ)):=by rw [List.getElem?_map,Int.toNat_natCast,e1]; rfl
          refine ⟨fun _=>⟨by simp only; omega,by simp only; omega⟩,I (i4:Int),fun _=>oT,?_⟩
          have eB:(0:Int)≤(i4:Int)∧(i4:Int)<(((dz s S j).map kj).length:Int):=⟨by omega,by rw [List.length_map,ct]; omega⟩
          have b4:DV.aw 1 ((((dz s S j).map kj).set ((i4:Int)).toNat .any).set ((i4:Int)).toNat (.aw 5 ((bI (S.drop (j+1)) i4).map bQ)))=.aw 1 ((dz s S (j+1)).map kj):=by
           rw [List.set_set,Int.toNat_natCast,e2,List.map_set]; rfl
          have xq:DV.aw 5 (List.drop 1 (List.take ((((bQ x0::(bI (S.drop (j+1)) i4).map bQ).length:Nat):Int)).toNat (bQ x0::(bI (S.drop (j+1)) i4).map bQ)))=DV.aw 5 ((bI (S.drop (j+1)) i4).map bQ):=by
           rw [Int.toNat_natCast,List.take_length]; rfl
          cases hh
          ·refine ⟨fun _=>eB,.aw 5 (bQ x0::(bI (S.drop (j+1)) i4).map bQ),fun _=>gS,?_⟩
           refine .inr (.inr ⟨.aw 5 (bQ x0::(bI (S.drop (j+1)) i4).map bQ),fun _=>gS,⟨by simp,by simp; omega,by simp⟩,?_⟩)
           refine ⟨.aw 5 (bQ x0::(bI (S.drop (j+1)) i4).map bQ),gS,?_⟩
           refine ⟨fun _=>by rw [List.length_set]; exact eB,[.aw 5 ((bI (S.drop (j+1)) i4).map bQ)],⟨xq,tv⟩,.any,List.getElem?_set_self (by rw [List.length_map,ct]; omega),?_⟩
           refine ⟨by kernel_rfl,fun _=>⟨by simp only; omega,by simp only; omega⟩,⟨j+1,true⟩,⟨⟨rfl,rfl,rf,rf,rf,rf,rf,rfl,rf,au (by simp),tv⟩,⟨⟨rf,rf,rf,rf,rf,rf,rfl,rfl,rfl,rfl,rfl,tv⟩,⟨rfl,rfl⟩,⟨rfl,rfl⟩,⟨rfl,rfl⟩,⟨rfl,b4⟩,⟨rfl,rfl⟩,⟨rf,rf,rf,rf,rf,rf,rf,tv⟩,tv⟩,rfl,rfl⟩,⟨by simp only; omega,by simp⟩,by simp only; omega⟩
          ·refine ⟨fun _=>eB,.aw 5 (bQ x0::(bI (S.drop (j+1)) i4).map bQ),fun _=>gS,?_⟩
           refine .inr (.inr ⟨.aw 5 (bQ x0::(bI (S.drop (j+1)) i4).map bQ),fun _=>gS,⟨by simp,by simp; omega,by simp⟩,?_⟩)
           refine ⟨.aw 5 (bQ x0::(bI (S.drop (j+1)) i4).map bQ),gS,?_⟩
           refine ⟨fun _=>by rw [List.length_set]; exact eB,[.aw 5 ((bI (S.drop (j+1)) i4).map bQ)],⟨xq,tv⟩,.any,List.getElem?_set_self (by rw [List.length_map,ct]; omega),?_⟩
           refine ⟨by kernel_rfl,fun _=>⟨by simp only; omega,by simp only; omega⟩,⟨j+1,true⟩,⟨⟨rfl,rfl,rf,rf,rf,rf,rf,rfl,rf,au (by simp),tv⟩,⟨⟨rf,rf,rf,rf,rf,rf,rfl,rfl,rfl,rfl,rfl,tv⟩,⟨rfl,rfl⟩,⟨rfl,rfl⟩,⟨rfl,rfl⟩,⟨rfl,b4⟩,⟨rfl,rfl⟩,⟨rf,rf,rf,rf,rf,rf,rf,tv⟩,tv⟩,rfl,rfl⟩,⟨by simp only; omega,by simp⟩,by simp only; omega⟩
         ·have dy:j=lv:=by have:=of_decide_eq_false dy; simp only [Int.ofNat_lt] at this; omega
          subst dy
          have vT:DV.aw 1 (List.drop ((j:Int)).toNat (List.take (((s1.bH.map I).length:Nat):Int).toNat (s1.bH.map I)))=vK.gk (s1.bH.drop j):=by
           rw [Int.toNat_natCast,Int.toNat_natCast,List.take_length,←List.map_drop]; rfl
          refine .inl ⟨⟨by simp,by simp only [Option.getD_some,Option.getD_none,List.length_map,k1,k3]; omega,by simp⟩,fun _=>⟨by simp only; omega,by simp only; omega⟩,?_⟩
          refine ⟨(fun h9=>by cases h9),fun _=>?_⟩
          have k7:dz s1 S j=dz s S j:=by unfold dz; rw [k2]
          cases hh
          ·have s7:mn s S st (.ok A) [.dv (I 0)] (x9 true false true { dp s1 S j with last:=st.tick }):=by
            refine ⟨done,k6,rfl,?_⟩
            rw [fh,←k5,Im,pe,←q2]
            have h0:cN s S st s1={ dp s1 S j with last:=st.tick }:=by unfold cN; rw [Im,pe]; rfl
            rw [h0]; simp
           exact ⟨_,_,s7,by kernel_rfl,⟨rf,tv⟩,⟨rf,rf,rf,rf,rf,rf,rfl,rfl,rfl,rfl,rfl,tv⟩,⟨rfl,rfl⟩,⟨rfl,rfl⟩,⟨rfl,rfl⟩,⟨rfl,by rw [←k7]; rfl⟩,⟨rfl,vT⟩,tv⟩
          ·have s7:mn s S st (.ok A) [.dv (I 0)] (x9 true true true { dp s1 S j with last:=st.tick }):=by
            refine ⟨done,k6,rfl,?_⟩
            rw [fh,←k5,Im,pe,←q2]
            have h0:cN s S st s1={ dp s1 S j with last:=st.tick }:=by unfold cN; rw [Im,pe]; rfl
            rw [h0]; simp
           exact ⟨_,_,s7,by kernel_rfl,⟨rf,tv⟩,⟨rf,rf,rf,rf,rf,rf,rfl,rfl,rfl,rfl,rfl,tv⟩,⟨rfl,rfl⟩,⟨rfl,rfl⟩,⟨rfl,rfl⟩,⟨rfl,by rw [←k7]; rfl⟩,⟨rfl,vT⟩,tv⟩
      ·simp only at il
       rw [List.getElem?_map] at il
       obtain ⟨⟨k,x⟩,hk,rfl⟩:∃p,left[pos]?=some p∧cc=ni p:=by
        cases hq:left[pos]? with
        | none=>rw [hq] at il; cases il
        | some p=>rw [hq] at il; exact ⟨p,rfl,by simpa using il.symm⟩
       refine ⟨mo x,?_⟩
       have y7:(done++(k,x)::left.eraseIdx pos).Perm A:=((qq hk).append_left done).symm.trans g1
       obtain ⟨ii,bK,XK⟩:=jn A hA done k x _ y7
       have cV:=Du (aL s done) k ii x bK
       have Dm:cQ (aL s done) k ii x=aL s (done++[(k,x)]):=by
        unfold aL; rw [List.foldl_append]; show cQ _ k ii x=cQ _ k k.2.toNat x
        rw [show k.2.toNat=ii by have:=bK.it; omega]
       rw [Dm,XK] at cV
       have sd:fU s (done++[(k,x)])=(f || cA s k x):=by unfold fU; rw [List.any_append,g2]; simp [fU]
       cases f
       ·cases MP:cA s k x
        ·rw [MP] at cV sd
         refine .inr ⟨[0,1,2,3,4,5],[.ptr 0 0,.agg [.dv (I k.1),.dv (I k.2)],.dv (I x)],vK false (aL s done),0,_,_,cV,by kernel_rfl,by kernel_rfl,⟨rfl,⟨rf,rf,tv⟩,rf,tv⟩,⟨⟨rf,rf,rf,rf,rf,rf,rfl,rfl,rfl,rfl,rfl,tv⟩,⟨rfl,rfl⟩,⟨rfl,rfl⟩,⟨rfl,rfl⟩,⟨rfl,rfl⟩,⟨rfl,rfl⟩,tv⟩,?_⟩
         exact ⟨⟨left.eraseIdx pos,done++[(k,x)],false⟩,⟨⟨rfl,rfl,rf,rf,rf,rf,rf,rfl,tv⟩,⟨⟨rf,rf,rf,rf,rf,rf,rfl,rfl,rfl,rfl,rfl,tv⟩,⟨rfl,rfl⟩,⟨rfl,rfl⟩,⟨rfl,rfl⟩,⟨rfl,rfl⟩,⟨rfl,rfl⟩,⟨rf,rf,rf,rf,rf,rf,rf,tv⟩,tv,⟨rfl,rfl,rfl,cW _ _,.inl rfl,tv⟩,tv⟩,rfl,rfl⟩,⟨by simp only [List.append_assoc]; exact y7,sd.symm⟩,by simp only; have:=eN hk; omega⟩
        ·rw [MP] at cV sd
         refine .inr ⟨[0,1,2,3,4,5],[.ptr 0 0,.agg [.dv (I k.1),.dv (I k.2)],.dv (I x)],vK false (aL s done),0,_,_,cV,by kernel_rfl,by kernel_rfl,⟨rfl,⟨rf,rf,tv⟩,rf,tv⟩,⟨⟨rf,rf,rf,rf,rf,rf,rfl,rfl,rfl,rfl,rfl,tv⟩,⟨rfl,rfl⟩,⟨rfl,rfl⟩,⟨rfl,rfl⟩,⟨rfl,rfl⟩,⟨rfl,rfl⟩,tv⟩,?_⟩
         exact ⟨⟨left.eraseIdx pos,done++[(k,x)],true⟩,⟨⟨rfl,rfl,rf,rf,rf,rf,rf,rfl,tv⟩,⟨⟨rf,rf,rf,rf,rf,rf,rfl,rfl,rfl,rfl,rfl,tv⟩,⟨rfl,rfl⟩,⟨rfl,rfl⟩,⟨rfl,rfl⟩,⟨rfl,rfl⟩,⟨rfl,rfl⟩,⟨rf,rf,rf,rf,rf,rf,rf,tv⟩,tv,⟨rfl,rfl,rfl,cW _ _,.inl rfl,tv⟩,tv⟩,rfl,rfl⟩,⟨by simp only [List.append_assoc]; exact y7,sd.symm⟩,by simp only; have:=eN hk; omega⟩
       ·cases MP:cA s k x
        ·rw [MP] at cV sd
         refine .inr ⟨[0,1,2,3,4,5],[.ptr 0 0,.agg [.dv (I k.1),.dv (I k.2)],.dv (I x)],vK false (aL s done),0,_,_,cV,by kernel_rfl,by kernel_rfl,⟨rfl,⟨rf,rf,tv⟩,rf,tv⟩,⟨⟨rf,rf,rf,rf,rf,rf,rfl,rfl,rfl,rfl,rfl,tv⟩,⟨rfl,rfl⟩,⟨rfl,rfl⟩,⟨rfl,rfl⟩,⟨rfl,rfl⟩,⟨rfl,rfl⟩,tv⟩,?_⟩
         exact ⟨⟨left.eraseIdx pos,done++[(k,x)],true⟩,⟨⟨rfl,rfl,rf,rf,rf,rf,rf,rfl,tv⟩,⟨⟨rf,rf,rf,rf,rf,rf,rfl,rfl,rfl,rfl,rfl,tv⟩,⟨rfl,rfl⟩,⟨rfl,rfl⟩,⟨rfl,rfl⟩,⟨rfl,rfl⟩,⟨rfl,rfl⟩,⟨rf,rf,rf,rf,rf,rf,rf,tv⟩,tv,⟨rfl,rfl,rfl,cW _ _,.inl rfl,tv⟩,tv⟩,rfl,rfl⟩,⟨by simp only [List.append_assoc]; exact y7,sd.symm⟩,by simp only; have:=eN hk; omega⟩
        ·rw [MP] at cV sd
         refine .inr ⟨[0,1,2,3,4,5],[.ptr 0 0,.agg [.dv (I k.1),.dv (I k.2)],.dv (I x)],vK false (aL s done),0,_,_,cV,by kernel_rfl,by kernel_rfl,⟨rfl,⟨rf,rf,tv⟩,rf,tv⟩,⟨⟨rf,rf,rf,rf,rf,rf,rfl,rfl,rfl,rfl,rfl,tv⟩,⟨rfl,rfl⟩,⟨rfl,rfl⟩,⟨rfl,rfl⟩,⟨rfl,rfl⟩,⟨rfl,rfl⟩,tv⟩,?_⟩
         exact ⟨⟨left.eraseIdx pos,done++[(k,x)],true⟩,⟨⟨rfl,rfl,rf,rf,rf,rf,rf,rfl,tv⟩,⟨⟨rf,rf,rf,rf,rf,rf,rfl,rfl,rfl,rfl,rfl,tv⟩,⟨rfl,rfl⟩,⟨rfl,rfl⟩,⟨rfl,rfl⟩,⟨rfl,rfl⟩,⟨rfl,rfl⟩,⟨rf,rf,rf,rf,rf,rf,rf,tv⟩,tv,⟨rfl,rfl,rfl,cW _ _,.inl rfl,tv⟩,tv⟩,rfl,rfl⟩,⟨by simp only [List.append_assoc]; exact y7,sd.symm⟩,by simp only; have:=eN hk; omega⟩
    ·simp only at il
     rw [List.getElem?_map] at il
     obtain ⟨⟨k,x⟩,hk,rfl⟩:∃p,left[pos]?=some p∧cc=ni p:=by
      cases hq:left[pos]? with
      | none=>rw [hq] at il; cases il
      | some p=>rw [hq] at il; exact ⟨p,rfl,by simpa using il.symm⟩
     refine ⟨mo x,?_⟩
     refine ⟨gM,u4 k,rfl,rfl,I (hv s.H k),(bt s.H k).isSome,fun _=>Dy s.H k,Ik s.H k,rfl,?_⟩
     refine ⟨by kernel_rfl,?_⟩
     repeat first | refine ⟨id,?_⟩ | refine ⟨fun _ h=>bW h,?_⟩ | refine ⟨fun _ h=>ay h,?_⟩ | refine ⟨fun h=>⟨h,fun h2=>aF h h2⟩,?_⟩ | refine ⟨fun h=>⟨h,fun h2=>aA h h2⟩,?_⟩
     have E4:=qp s.H hk
     have hle:=eN hk
     refine ⟨fun hq=>?_,fun hq=>?_⟩
     ·have hd:DK s.H (k,x)=1:=by
       show (bif (bif hv s.H k == 0 then x != 0 else false) then (1:Int) else _)=1
       rw [show (bif hv s.H k == 0 then x != 0 else false)=true from hq]; rfl
      have h0:hv s.H k=0:=by
       cases hz:(hv s.H k == 0) with
       | true=>simpa using hz
       | false=>rw [hz] at hq; cases hq
      refine ⟨fun _=>⟨by simp only; omega,by simp only; omega⟩,?_⟩
      repeat first | refine ⟨id,?_⟩ | refine ⟨fun _ h=>bW h,?_⟩ | refine ⟨fun _ h=>ay h,?_⟩ | refine ⟨fun h=>⟨h,fun h2=>aF h h2⟩,?_⟩ | refine ⟨fun h=>⟨h,fun h2=>aA h h2⟩,?_⟩
      refine ⟨fun hr=>absurd hr (by rw [h0]; simp),fun _=>?_⟩
      exact ⟨⟨left.eraseIdx pos,sz+1⟩,⟨⟨rfl,rfl,rfl,rf,rf,rf,rf,rf,rf,rfl,tv⟩,⟨⟨rf,rf,rf,rf,rf,rf,rfl,rfl,rfl,rfl,rfl,tv⟩,⟨rfl,rfl⟩,⟨rfl,rfl⟩,⟨rfl,rfl⟩,⟨rfl,rfl⟩,⟨rfl,rfl⟩,⟨rf,rf,rf,rf,rf,rf,rf,tv⟩,tv,⟨rfl,rfl,rfl,cW _ _,.inl rfl,tv⟩,tv⟩,rfl,rfl⟩,⟨by simp only; omega,by simp only; omega,by simp only; omega,by simp only; omega⟩,by simp only; omega⟩
     ·repeat first | refine ⟨id,?_⟩ | refine ⟨fun _ h=>bW h,?_⟩ | refine ⟨fun _ h=>ay h,?_⟩ | refine ⟨fun h=>⟨h,fun h2=>aF h h2⟩,?_⟩ | refine ⟨fun h=>⟨h,fun h2=>aA h h2⟩,?_⟩
      refine ⟨fun hr=>?_,fun hr=>?_⟩
      ·have hd:DK s.H (k,x)=-1:=by
        show (bif (bif hv s.H k == 0 then x != 0 else false) then (1:Int) else bif (bif hv s.H k != 0 then x == 0 else false) then -1 else 0)=-1
        rw [show (bif hv s.H k == 0 then x != 0 else false)=false from hq,show (bif hv s.H k != 0 then x == 0 else false)=true from hr]; rfl
       refine ⟨fun _=>⟨by simp only; omega,by simp only; omega⟩,?_⟩
       exact ⟨⟨left.eraseIdx pos,sz - 1⟩,⟨⟨rfl,rfl,rfl,rf,rf,rf,rf,rf,rf,rfl,tv⟩,⟨⟨rf,rf,rf,rf,rf,rf,rfl,rfl,rfl,rfl,rfl,tv⟩,⟨rfl,rfl⟩,⟨rfl,rfl⟩,⟨rfl,rfl⟩,⟨rfl,rfl⟩,⟨rfl,rfl⟩,⟨rf,rf,rf,rf,rf,rf,rf,tv⟩,tv,⟨rfl,rfl,rfl,cW _ _,.inl rfl,tv⟩,tv⟩,rfl,rfl⟩,⟨by simp only; omega,by simp only; omega,by simp only; omega,by simp only; omega⟩,by simp only; omega⟩
      ·have hd:DK s.H (k,x)=0:=by
        show (bif (bif hv s.H k == 0 then x != 0 else false) then (1:Int) else bif (bif hv s.H k != 0 then x == 0 else false) then -1 else 0)=0
        rw [show (bif hv s.H k == 0 then x != 0 else false)=false from hq,show (bif hv s.H k != 0 then x == 0 else false)=false from hr]; rfl
       exact ⟨⟨left.eraseIdx pos,sz⟩,⟨⟨rfl,rfl,rfl,rf,rf,rf,rf,rf,rf,rfl,tv⟩,⟨⟨rf,rf,rf,rf,rf,rf,rfl,rfl,rfl,rfl,rfl,tv⟩,⟨rfl,rfl⟩,⟨rfl,rfl⟩,⟨rfl,rfl⟩,⟨rfl,rfl⟩,⟨rfl,rfl⟩,⟨rf,rf,rf,rf,rf,rf,rf,tv⟩,tv,⟨rfl,rfl,rfl,cW _ _,.inl rfl,tv⟩,tv⟩,rfl,rfl⟩,⟨by simp only; omega,by simp only; omega,by simp only; omega,by simp only; omega⟩,by simp only; omega⟩
  ·refine ⟨fun _=>⟨fun _=>⟨by omega,by omega⟩,?_⟩,fun hb=>by cases hb⟩
   obtain ⟨z0,EL⟩:∃z0:Int,(s.H.length:Int)+(s.bH.length:Int) - (lv:Int)+1=z0:=⟨_,rfl⟩
   have XI:MN s S st=z0:=by unfold MN; rw [Im,pe]; exact EL
   have OR:-1000≤z0∧z0≤1000000:=by omega
   rw [XI] at r9
   refine ⟨XF,Y5 s st A it n c true lv,fun z=>z.sz+ja s.H z.left=z0+ja s.H A∧z0 - ((A.length:Int) - (z.left.length:Int))≤z.sz∧z.sz≤z0+((A.length:Int) - (z.left.length:Int))∧z.left.length≤A.length,fun z=>z.left.length,⟨A,z0⟩,fun _=>rfl,?_,?_,?_⟩
   ·exact ⟨⟨rfl,rfl,rfl,rf,rf,rf,rf,rf,au EL,rfl,tv⟩,⟨⟨rf,rf,rf,rf,rf,rf,rfl,rfl,rfl,rfl,rfl,tv⟩,⟨rfl,rfl⟩,⟨rfl,rfl⟩,⟨rfl,rfl⟩,⟨rfl,rfl⟩,⟨rfl,rfl⟩,⟨rf,rf,rf,rf,rf,rf,rf,tv⟩,tv,⟨rfl,rfl,rfl,rfl,.inl rfl,tv⟩,tv⟩,rfl,rfl⟩
   ·exact ⟨rfl,by simp only; omega,by simp only; omega,Nat.le_refl _⟩
   ·rintro ⟨left,sz⟩ ⟨h1,h2,h3,h4⟩
    simp only at h1 h2 h3 h4
    refine ⟨tv,fun h5=>⟨(fun h6=>by cases h6),fun _=>?_⟩,fun pos cc il=>⟨fun _=>?_,fun h6=>by cases h6⟩⟩
    ·have hz:left=[]:=by simpa using h5
     subst hz
     have XJ:sz=z0+ja s.H A:=by have:ja s.H []=0:=rfl; omega
     refine ⟨fun hq=>?_,fun hq=>?_⟩
     ·have hq:s.aE<sz:=of_decide_eq_true hq
      rw [if_pos (by omega)] at r9
      rw [r9]
      exact ⟨_,_,⟨rfl,rfl⟩,by kernel_rfl,⟨rf,tv⟩,⟨rf,rf,rf,rf,rf,rf,rfl,rfl,rfl,rfl,rfl,tv⟩,⟨rfl,rfl⟩,⟨rfl,rfl⟩,⟨rfl,rfl⟩,⟨rfl,rfl⟩,⟨rfl,rfl⟩,tv⟩
     have hq:¬ s.aE<sz:=of_decide_eq_false hq
     rw [if_neg (by omega)] at r9
     rw [r9]
     refine ⟨XG,Y6 s st A it n c true lv,fun z=>(z.done++z.left).Perm A∧z.f=fU s z.done,fun z=>z.left.length,⟨A,[],false⟩,fun z=>by obtain ⟨z1,z2,z3⟩:=z; cases z3 <;> rfl,?_,?_,?_⟩
     ·exact ⟨⟨rfl,rfl,rf,rf,rf,rf,rf,rfl,tv⟩,⟨⟨rf,rf,rf,rf,rf,rf,rfl,rfl,rfl,rfl,rfl,tv⟩,⟨rfl,rfl⟩,⟨rfl,rfl⟩,⟨rfl,rfl⟩,⟨rfl,rfl⟩,⟨rfl,rfl⟩,⟨rf,rf,rf,rf,rf,rf,rf,tv⟩,tv,⟨rfl,rfl,rfl,rfl,.inl rfl,tv⟩,tv⟩,rfl,rfl⟩
     ·exact ⟨List.Perm.refl _,rfl⟩
     ·rintro ⟨left,done,f⟩ ⟨g1,g2⟩
      simp only at g1 g2
      refine ⟨tv,fun h5=>⟨(fun h6=>by cases h6),fun _=>?_⟩,fun pos cc il=>⟨fun _=>?_,fun h6=>by cases h6⟩⟩
      ·have hz:left=[]:=by simpa using h5
       subst hz
       have k1:(aL s done).bH=s.bH:=j6 s done
       have k2:(aL s done).sl=s.sl:=nZ s done
       have k3:s.bH.length=S.length:=by rw [h.bH,List.length_map]
       have k4:lv≤S.length:=by rw [←pe]; unfold dC; exact (List.takeWhile_sublist _).length_le
       have k5:f=fU s A:=by rw [g2]; unfold fU; exact DL (by simpa using g1) _
       have k6:done.Perm A:=by simpa using g1
       have k8:=mq s done
       have k9:done.length≤100000:=by rw [k6.length_eq]; exact Y7
       generalize fh:aL s done=s1 at *
       have UY:dz s S 0=s1.sl:=by rw [k2]; exact zG h
       cases f
       ·refine .inr (.inl ⟨fun _=>⟨by simp,by simp,by simp only [k1,List.length_map,Option.getD_some]; omega⟩,?_⟩)
        refine ⟨UW,Wf s s1 S st it n c true lv false,fun z=>z.j≤lv∧z.h=decide (0<z.j),fun z=>lv - z.j,⟨0,false⟩,fun z=>by obtain ⟨z1,z2⟩:=z; cases z2 <;> rfl,?_,?_,?_⟩
        ·exact ⟨⟨rfl,rfl,rf,rf,rf,rf,rf,rfl,rf,rf,tv⟩,⟨⟨rf,rf,rf,rf,rf,rf,rfl,rfl,rfl,rfl,rfl,tv⟩,⟨rfl,rfl⟩,⟨rfl,rfl⟩,⟨rfl,rfl⟩,⟨rfl,by rw [UY]⟩,⟨rfl,rfl⟩,⟨rf,rf,rf,rf,rf,rf,rf,tv⟩,tv⟩,rfl,rfl⟩
        ·exact ⟨Nat.zero_le _,rfl⟩
        ·rintro ⟨j,hh⟩ ⟨q1,q2⟩
         simp only at q1 q2
         refine ⟨fun aK=>?_,fun dy=>?_⟩
         ·have aK:j<lv:=by have:=of_decide_eq_true aK; simp only [Int.ofNat_lt] at this; exact this
          obtain ⟨⟨i4,x0⟩,kF⟩:∃q,S[j]?=some q:=⟨_,List.getElem?_eq_getElem (by omega)⟩
          have SF:i4<4:=h.it _ (List.mem_of_getElem? kF)
          have oT:(s1.bH.map I)[0+((j:Int)).toNat]?=some (I (i4:Int)):=by rw [k1,h.bH,List.map_map,List.getElem?_map,Nat.zero_add,Int.toNat_natCast,kF]; rfl
          obtain ⟨e1,e2⟩:=oW h kF
          have gS:((dz s S j).map kj)[((i4:Int)).toNat]?=some (.aw 5 (bQ x0::(bI (S.drop (j+1)) i4).map bQ)):=by rw [List.getElem?_map,Int.toNat_natCast,e1]; rfl
          refine ⟨fun _=>⟨by simp only; omega,by simp only; omega⟩,I (i4:Int),fun _=>oT,?_⟩
          have eB:(0:Int)≤(i4:Int)∧(i4:Int)<(((dz s S j).map kj).length:Int):=⟨by omega,by rw [List.length_map,ct]; omega⟩
          have b4:DV.aw 1 ((((dz s S j).map kj).set ((i4:Int)).toNat .any).set ((i4:Int)).toNat (.aw 5 ((bI (S.drop (j+1)) i4).map bQ)))=.aw 1 ((dz s S (j+1)).map kj):=by
           rw [List.set_set,Int.toNat_natCast,e2,List.map_set]; rfl
          have xq:DV.aw 5 (List.drop 1 (List.take ((((bQ x0::(bI (S.drop (j+1)) i4).map bQ).length:Nat):Int)).toNat (bQ x0::(bI (S.drop (j+1)) i4).map bQ)))=DV.aw 5 ((bI (S.drop (j+1)) i4).map bQ):=by
           rw [Int.toNat_natCast,List.take_length]; rfl
          cases hh
          ·refine ⟨fun _=>eB,.aw 5 (bQ x0::(bI (S.drop (j+1)) i4).map bQ),fun _=>gS,?_⟩
           refine .inr (.inr ⟨.aw 5 (bQ x0::(bI (S.drop (j+1)) i4).map bQ),fun _=>gS,⟨by simp,by simp; omega,by simp⟩,?_⟩)
           refine ⟨.aw 5 (bQ x0::(bI (S.drop (j+1)) i4).map bQ),gS,?_⟩
           refine ⟨fun _=>by rw [List.length_set]; exact eB,[.aw 5 ((bI (S.drop (j+1)) i4).map bQ)],⟨xq,tv⟩,.any,List.getElem?_set_self (by rw [List.length_map,ct]; omega),?_⟩
           refine ⟨by kernel_rfl,fun _=>⟨by simp only; omega,by simp only; omega⟩,⟨j+1,true⟩,⟨⟨rfl,rfl,rf,rf,rf,rf,rf,rfl,rf,au (by simp),tv⟩,⟨⟨rf,rf,rf,rf,rf,rf,rfl,rfl,rfl,rfl,rfl,tv⟩,⟨rfl,rfl⟩,⟨rfl,rfl⟩,⟨rfl,rfl⟩,⟨rfl,b4⟩,⟨rfl,rfl⟩,⟨rf,rf,rf,rf,rf,rf,rf,tv⟩,tv⟩,rfl,rfl⟩,⟨by simp only; omega,by simp⟩,by simp only; omega⟩
          ·refine ⟨fun _=>eB,.aw 5 (bQ x0::(bI (S.drop (j+1)) i4).map bQ),fun _=>gS,?_⟩
           refine .inr (.inr ⟨.aw 5 (bQ x0::(bI (S.drop (j+1)) i4).map bQ),fun _=>gS,⟨by simp,by simp; omega,by simp⟩,?_⟩)
           refine ⟨.aw 5 (bQ x0::(bI (S.drop (j+1)) i4).map bQ),gS,?_⟩
           refine ⟨fun _=>by rw [List.length_set]; exact eB,[.aw 5 ((bI (S.drop (j+1)) i4).map bQ)],⟨xq,tv⟩,.any,List.getElem?_set_self (by rw [List.length_map,ct]; omega),?_⟩
           refine ⟨by kernel_rfl,fun _=>⟨by simp only; omega,by simp only; omega⟩,⟨j+1,true⟩,⟨⟨rfl,rfl,rf,rf,rf,rf,rf,rfl,rf,au (by simp),tv⟩,⟨⟨rf,rf,rf,rf,rf,rf,rfl,rfl,rfl,rfl,rfl,tv⟩,⟨rfl,rfl⟩,⟨rfl,rfl⟩,⟨rfl,rfl⟩,⟨rfl,b4⟩,⟨rfl,rfl⟩,⟨rf,rf,rf,rf,rf,rf,rf,tv⟩,tv⟩,rfl,rfl⟩,⟨by simp only; omega,by simp⟩,by simp only; omega⟩
         ·have dy:j=lv:=by have:=of_decide_eq_false dy; simp only [Int.ofNat_lt] at this; omega
          subst dy
          have vT:DV.aw 1 (List.drop ((j:Int)).toNat (List.take (((s1.bH.map I).length:Nat):Int).toNat (s1.bH.map I)))=vK.gk (s1.bH.drop j):=by
           rw [Int.toNat_natCast,Int.toNat_natCast,List.take_length,←List.map_drop]; rfl
          refine .inl ⟨⟨by simp,by simp only [Option.getD_some,Option.getD_none,List.length_map,k1,k3]; omega,by simp⟩,fun _=>⟨by simp only; omega,by simp only; omega⟩,?_⟩
          refine ⟨fun _=>?_,fun h9=>by cases h9⟩
          have k7:dz s1 S j=dz s S j:=by unfold dz; rw [k2]
          obtain ⟨t1,t2,t3,t4,t5,t6⟩:=QH A it n c hA rfl
          obtain ⟨i5,rfl⟩:∃i5:Nat,it=(i5:Int):=⟨it.toNat,by omega⟩
          have t7:=iN s S j i5 (by omega)
          have t8:=UX j i5
          have t9:(bI (S.drop j) i5).length≤1000:=by
           unfold bI; rw [List.length_map]
           refine Nat.le_trans (List.length_filter_le ..) ?_
           rw [List.length_drop]; have:=h.len; omega
          have DM:aO Tryz.prog 54 [.ptr 0 0,.dv (I i5),.agg [.dv (I st.tick),.dv (I n),.dv (I c),.dv (I 0),.dv (I 0)]] 6 (vK false (dp s1 S j)) 0 [] (x9 false true true (rN (dp s1 S j) i5 (bI (S.drop j) i5) st.tick n c)):=by
           cases MQ:(s.sl.getD i5 (true,[])).1 with
           | true =>
            have UZ:bI (S.drop j) i5=[]:=mr (by have h1:=h.Kp; have hg:=List.getElem?_eq_getElem (l:=s.sl) (i:=i5) (by omega); rw [List.getD_eq_getElem?_getD,hg] at MQ; generalize s.sl[i5]=q at hg MQ; obtain ⟨f7,l7⟩:=q; rw [←h.sl _ _ _ hg]; exact h.sf _ _ _ hg MQ) j
            rw [UZ]
            exact xb _ i5 (by show (dz s1 S j)[i5]?=_; rw [k7,t7,MQ,UZ]) _ _ _ ⟨by simp only [dp]; omega,by simp only [dp]; omega⟩ (by simp only [dp,List.length_drop,k1]; omega)
           | false =>
            exact xc _ i5 _ (by show (dz s1 S j)[i5]?=_; rw [k7,t7,MQ]) _ _ _ ⟨by simp only [dp]; omega,by simp only [dp]; omega⟩ (by simp only [dp,List.length_drop,k1]; omega) t9 ⟨t8.1,t8.2.1⟩ t8.2.2 ⟨by omega,by omega⟩ ⟨by omega,by omega⟩
          have s7:mn s S st (.ok A) [.dv (I 0)] (x9 false true true { rN (dp s1 S j) i5 (bI (S.drop j) i5) st.tick n c with last:=st.tick }):=by
           refine ⟨done,k6,rfl,?_⟩
           rw [fh,←k5,Im,pe]
           have h0:cN s S st s1={ rN (dp s1 S j) i5 (bI (S.drop j) i5) st.tick n c with last:=st.tick }:=by unfold cN; rw [Im,pe]; rfl
           rw [h0]; simp
          cases hh
          ·refine .inr ⟨[0,1,2,3,4,5],[.ptr 0 0,.dv (I i5),.agg [.dv (I st.tick),.dv (I n),.dv (I c),.dv (I 0),.dv (I 0)]],vK false (dp s1 S j),0,_,_,DM,by kernel_rfl,by kernel_rfl,⟨rfl,rf,⟨rf,rf,rf,rf,rf,tv⟩,tv⟩,⟨⟨rf,rf,rf,rf,rf,rf,rfl,rfl,rfl,rfl,rfl,tv⟩,⟨rfl,rfl⟩,⟨rfl,rfl⟩,⟨rfl,rfl⟩,⟨rfl,by rw [←k7]; rfl⟩,⟨rfl,vT⟩,tv⟩,?_⟩
           exact ⟨_,_,s7,by kernel_rfl,⟨rf,tv⟩,⟨rf,rf,rf,rf,rf,rf,rfl,rfl,rfl,rfl,rfl,tv⟩,⟨rfl,rfl⟩,⟨rfl,rfl⟩,⟨rfl,rfl⟩,⟨rfl,rfl⟩,⟨rfl,rfl⟩,tv⟩
          ·refine .inr ⟨[0,1,2,3,4,5],[.ptr 0 0,.dv (I i5),.agg [.dv (I st.tick),.dv (I n),.dv (I c),.dv (I 0),.dv (I 0)]],vK false (dp s1 S j),0,_,_,DM,by kernel_rfl,by kernel_rfl,⟨rfl,rf,⟨rf,rf,rf,rf,rf,tv⟩,tv⟩,⟨⟨rf,rf,rf,rf,rf,rf,rfl,rfl,rfl,rfl,rfl,tv⟩,⟨rfl,rfl⟩,⟨rfl,rfl⟩,⟨rfl,rfl⟩,⟨rfl,by rw [←k7]; rfl⟩,⟨rfl,vT⟩,tv⟩,?_⟩
           exact ⟨_,_,s7,by kernel_rfl,⟨rf,tv⟩,⟨rf,rf,rf,rf,rf,rf,rfl,rfl,rfl,rfl,rfl,tv⟩,⟨rfl,rfl⟩,⟨rfl,rfl⟩,⟨rfl,rfl⟩,⟨rfl,rfl⟩,⟨rfl,rfl⟩,tv⟩
       ·refine .inr (.inl ⟨fun _=>⟨by simp,by simp,by simp only [k1,List.length_map,Option.getD_some]; omega⟩,?_⟩)
        refine ⟨UW,Wf s s1 S st it n c true lv true,fun z=>z.j≤lv∧z.h=decide (0<z.j),fun z=>lv - z.j,⟨0,false⟩,fun z=>by obtain ⟨z1,z2⟩:=z; cases z2 <;> rfl,?_,?_,?_⟩
        ·exact ⟨⟨rfl,rfl,rf,rf,rf,rf,rf,rfl,rf,rf,tv⟩,⟨⟨rf,rf,rf,rf,rf,rf,rfl,rfl,rfl,rfl,rfl,tv⟩,⟨rfl,rfl⟩,⟨rfl,rfl⟩,⟨rfl,rfl⟩,⟨rfl,by rw [UY]⟩,⟨rfl,rfl⟩,⟨rf,rf,rf,rf,rf,rf,rf,tv⟩,tv⟩,rfl,rfl⟩
        ·exact ⟨Nat.zero_le _,rfl⟩
        ·rintro ⟨j,hh⟩ ⟨q1,q2⟩
         simp only at q1 q2
         refine ⟨fun aK=>?_,fun dy=>?_⟩
         ·have aK:j<lv:=by have:=of_decide_eq_true aK; simp only [Int.ofNat_lt] at this; exact this
          obtain ⟨⟨i4,x0⟩,kF⟩:∃q,S[j]?=some q:=⟨_,List.getElem?_eq_getElem (by omega)⟩
          have SF:i4<4:=h.it _ (List.mem_of_getElem? kF)
          have oT:(s1.bH.map I)[0+((j:Int)).toNat]?=some (I (i4:Int)):=by rw [k1,h.bH,List.map_map,List.getElem?_map,Nat.zero_add,Int.toNat_natCast,kF]; rfl
          obtain ⟨e1,e2⟩:=oW h kF
          have gS:((dz s S j).map kj)[((i4:Int)).toNat]?=some (.aw 5 (bQ x0::(bI (S.drop (j+1)) i4).map bQ)):=by rw [List.getElem?_map,Int.toNat_natCast,e1]; rfl
          refine ⟨fun _=>⟨by simp only; omega,by simp only; omega⟩,I (i4:Int),fun _=>oT,?_⟩
          have eB:(0:Int)≤(i4:Int)∧(i4:Int)<(((dz s S j).map kj).length:Int):=⟨by omega,by rw [List.length_map,ct]; omega⟩
          have b4:DV.aw 1 ((((dz s S j).map kj).set ((i4:Int)).toNat .any).set ((i4:Int)).toNat (.aw 5 ((bI (S.drop (j+1)) i4).map bQ)))=.aw 1 ((dz s S (j+1)).map kj):=by
           rw [List.set_set,Int.toNat_natCast,e2,List.map_set]; rfl
          have xq:DV.aw 5 (List.drop 1 (List.take ((((bQ x0::(bI (S.drop (j+1)) i4).map bQ).length:Nat):Int)).toNat (bQ x0::(bI (S.drop (j+1)) i4).map bQ)))=DV.aw 5 ((bI (S.drop (j+1)) i4).map bQ):=by
           rw [Int.toNat_natCast,List.take_length]; rfl
          cases hh
          ·refine ⟨fun _=>eB,.aw 5 (bQ x0::(bI (S.drop (j+1)) i4).map bQ),fun _=>gS,?_⟩
           refine .inr (.inr ⟨.aw 5 (bQ x0::(bI (S.drop (j+1)) i4).map bQ),fun _=>gS,⟨by simp,by simp; omega,by simp⟩,?_⟩)
           refine ⟨.aw 5 (bQ x0::(bI (S.drop (j+1)) i4).map bQ),gS,?_⟩
           refine ⟨fun _=>by rw [List.length_set]; exact eB,[.aw 5 ((bI (S.drop (j+1)) i4).map bQ)],⟨xq,tv⟩,.any,List.getElem?_set_self (by rw [List.length_map,ct]; omega),?_⟩
           refine ⟨by kernel_rfl,fun _=>⟨by simp only; omega,by simp only; omega⟩,⟨j+1,true⟩,⟨⟨rfl,rfl,rf,rf,rf,rf,rf,rfl,rf,au (by simp),tv⟩,⟨⟨rf,rf,rf,rf,rf,rf,rfl,rfl,rfl,rfl,rfl,tv⟩,⟨rfl,rfl⟩,⟨rfl,rfl⟩,⟨rfl,rfl⟩,⟨rfl,b4⟩,⟨rfl,rfl⟩,⟨rf,rf,rf,rf,rf,rf,rf,tv⟩,tv⟩,rfl,rfl⟩,⟨by simp only; omega,by simp⟩,by simp only; omega⟩
          ·refine ⟨fun _=>eB,.aw 5 (bQ x0::(bI (S.drop (j+1)) i4).map bQ),fun _=>gS,?_⟩
           refine .inr (.inr ⟨.aw 5 (bQ x0::(bI (S.drop (j+1)) i4).map bQ),fun _=>gS,⟨by simp,by simp; omega,by simp⟩,?_⟩)
           refine ⟨.aw 5 (bQ x0::(bI (S.drop (j+1)) i4).map bQ),gS,?_⟩
           refine ⟨fun _=>by rw [List.length_set]; exact eB,[.aw 5 ((bI (S.drop (j+1)) i4).map bQ)],⟨xq,tv⟩,.any,List.getElem?_set_self (by rw [List.length_map,ct]; omega),?_⟩
           refine ⟨by kernel_rfl,fun _=>⟨by simp only; omega,by simp only; omega⟩,⟨j+1,true⟩,⟨⟨rfl,rfl,rf,rf,rf,rf,rf,rfl,rf,au (by simp),tv⟩,⟨⟨rf,rf,rf,rf,rf,rf,rfl,rfl,rfl,rfl,rfl,tv⟩,⟨rfl,rfl⟩,⟨rfl,rfl⟩,⟨rfl,rfl⟩,⟨rfl,b4⟩,⟨rfl,rfl⟩,⟨rf,rf,rf,rf,rf,rf,rf,tv⟩,tv⟩,rfl,rfl⟩,⟨by simp only; omega,by simp⟩,by simp only; omega⟩
         ·have dy:j=lv:=by have:=of_decide_eq_false dy; simp only [Int.ofNat_lt] at this; omega
          subst dy
          have vT:DV.aw 1 (List.drop ((j:Int)).toNat (List.take (((s1.bH.map I).length:Nat):Int).toNat (s1.bH.map I)))=vK.gk (s1.bH.drop j):=by
           rw [Int.toNat_natCast,Int.toNat_natCast,List.take_length,←List.map_drop]; rfl
          refine .inl ⟨⟨by simp,by simp only [Option.getD_some,Option.getD_none,List.length_map,k1,k3]; omega,by simp⟩,fun _=>⟨by simp only; omega,by simp only; omega⟩,?_⟩
          refine ⟨fun _=>?_,fun h9=>by cases h9⟩
          have k7:dz s1 S j=dz s S j:=by unfold dz; rw [k2]
          obtain ⟨t1,t2,t3,t4,t5,t6⟩:=QH A it n c hA rfl
          obtain ⟨i5,rfl⟩:∃i5:Nat,it=(i5:Int):=⟨it.toNat,by omega⟩
          have t7:=iN s S j i5 (by omega)
          have t8:=UX j i5
          have t9:(bI (S.drop j) i5).length≤1000:=by
           unfold bI; rw [List.length_map]
           refine Nat.le_trans (List.length_filter_le ..) ?_
           rw [List.length_drop]; have:=h.len; omega
          have DM:aO Tryz.prog 54 [.ptr 0 0,.dv (I i5),.agg [.dv (I st.tick),.dv (I n),.dv (I c),.dv (I 0),.dv (I 0)]] 6 (vK false (dp s1 S j)) 0 [] (x9 false true true (rN (dp s1 S j) i5 (bI (S.drop j) i5) st.tick n c)):=by
           cases MQ:(s.sl.getD i5 (true,[])).1 with
           | true =>
            have UZ:bI (S.drop j) i5=[]:=mr (by have h1:=h.Kp; have hg:=List.getElem?_eq_getElem (l:=s.sl) (i:=i5) (by omega); rw [List.getD_eq_getElem?_getD,hg] at MQ; generalize s.sl[i5]=q at hg MQ; obtain ⟨f7,l7⟩:=q; rw [←h.sl _ _ _ hg]; exact h.sf _ _ _ hg MQ) j
            rw [UZ]
            exact xb _ i5 (by show (dz s1 S j)[i5]?=_; rw [k7,t7,MQ,UZ]) _ _ _ ⟨by simp only [dp]; omega,by simp only [dp]; omega⟩ (by simp only [dp,List.length_drop,k1]; omega)
           | false =>
            exact xc _ i5 _ (by show (dz s1 S j)[i5]?=_; rw [k7,t7,MQ]) _ _ _ ⟨by simp only [dp]; omega,by simp only [dp]; omega⟩ (by simp only [dp,List.length_drop,k1]; omega) t9 ⟨t8.1,t8.2.1⟩ t8.2.2 ⟨by omega,by omega⟩ ⟨by omega,by omega⟩
          have s7:mn s S st (.ok A) [.dv (I 0)] (x9 true true true { rN (dp s1 S j) i5 (bI (S.drop j) i5) st.tick n c with last:=st.tick }):=by
           refine ⟨done,k6,rfl,?_⟩
           rw [fh,←k5,Im,pe]
           have h0:cN s S st s1={ rN (dp s1 S j) i5 (bI (S.drop j) i5) st.tick n c with last:=st.tick }:=by unfold cN; rw [Im,pe]; rfl
           rw [h0]; simp
          cases hh
          ·refine .inr ⟨[0,1,2,3,4,5],[.ptr 0 0,.dv (I i5),.agg [.dv (I st.tick),.dv (I n),.dv (I c),.dv (I 0),.dv (I 0)]],vK false (dp s1 S j),0,_,_,DM,by kernel_rfl,by kernel_rfl,⟨rfl,rf,⟨rf,rf,rf,rf,rf,tv⟩,tv⟩,⟨⟨rf,rf,rf,rf,rf,rf,rfl,rfl,rfl,rfl,rfl,tv⟩,⟨rfl,rfl⟩,⟨rfl,rfl⟩,⟨rfl,rfl⟩,⟨rfl,by rw [←k7]; rfl⟩,⟨rfl,vT⟩,tv⟩,?_⟩
           exact ⟨_,_,s7,by kernel_rfl,⟨rf,tv⟩,⟨rf,rf,rf,rf,rf,rf,rfl,rfl,rfl,rfl,rfl,tv⟩,⟨rfl,rfl⟩,⟨rfl,rfl⟩,⟨rfl,rfl⟩,⟨rfl,rfl⟩,⟨rfl,rfl⟩,tv⟩
          ·refine .inr ⟨[0,1,2,3,4,5],[.ptr 0 0,.dv (I i5),.agg [.dv (I st.tick),.dv (I n),.dv (I c),.dv (I 0),.dv (I 0)]],vK false (dp s1 S j),0,_,_,DM,by kernel_rfl,by kernel_rfl,⟨rfl,rf,⟨rf,rf,rf,rf,rf,tv⟩,tv⟩,⟨⟨rf,rf,rf,rf,rf,rf,rfl,rfl,rfl,rfl,rfl,tv⟩,⟨rfl,rfl⟩,⟨rfl,rfl⟩,⟨rfl,rfl⟩,⟨rfl,by rw [←k7]; rfl⟩,⟨rfl,vT⟩,tv⟩,?_⟩
           exact ⟨_,_,s7,by kernel_rfl,⟨rf,tv⟩,⟨rf,rf,rf,rf,rf,rf,rfl,rfl,rfl,rfl,rfl,tv⟩,⟨rfl,rfl⟩,⟨rfl,rfl⟩,⟨rfl,rfl⟩,⟨rfl,rfl⟩,⟨rfl,rfl⟩,tv⟩
      ·simp only at il
       rw [List.getElem?_map] at il
       obtain ⟨⟨k,x⟩,hk,rfl⟩:∃p,left[pos]?=some p∧cc=ni p:=by
        cases hq:left[pos]? with
        | none=>rw [hq] at il; cases il
        | some p=>rw [hq] at il; exact ⟨p,rfl,by simpa using il.symm⟩
       refine ⟨mo x,?_⟩
       have y7:(done++(k,x)::left.eraseIdx pos).Perm A:=((qq hk).append_left done).symm.trans g1
       obtain ⟨ii,bK,XK⟩:=jn A hA done k x _ y7
       have cV:=Du (aL s done) k ii x bK
       have Dm:cQ (aL s done) k ii x=aL s (done++[(k,x)]):=by
        unfold aL; rw [List.foldl_append]; show cQ _ k ii x=cQ _ k k.2.toNat x
        rw [show k.2.toNat=ii by have:=bK.it; omega]
       rw [Dm,XK] at cV
       have sd:fU s (done++[(k,x)])=(f || cA s k x):=by unfold fU; rw [List.any_append,g2]; simp [fU]
       cases f
       ·cases MP:cA s k x
        ·rw [MP] at cV sd
         refine .inr ⟨[0,1,2,3,4,5],[.ptr 0 0,.agg [.dv (I k.1),.dv (I k.2)],.dv (I x)],vK false (aL s done),0,_,_,cV,by kernel_rfl,by kernel_rfl,⟨rfl,⟨rf,rf,tv⟩,rf,tv⟩,⟨⟨rf,rf,rf,rf,rf,rf,rfl,rfl,rfl,rfl,rfl,tv⟩,⟨rfl,rfl⟩,⟨rfl,rfl⟩,⟨rfl,rfl⟩,⟨rfl,rfl⟩,⟨rfl,rfl⟩,tv⟩,?_⟩
         exact ⟨⟨left.eraseIdx pos,done++[(k,x)],false⟩,⟨⟨rfl,rfl,rf,rf,rf,rf,rf,rfl,tv⟩,⟨⟨rf,rf,rf,rf,rf,rf,rfl,rfl,rfl,rfl,rfl,tv⟩,⟨rfl,rfl⟩,⟨rfl,rfl⟩,⟨rfl,rfl⟩,⟨rfl,rfl⟩,⟨rfl,rfl⟩,⟨rf,rf,rf,rf,rf,rf,rf,tv⟩,tv,⟨rfl,rfl,rfl,cW _ _,.inl rfl,tv⟩,tv⟩,rfl,rfl⟩,⟨by simp only [List.append_assoc]; exact y7,sd.symm⟩,by simp only; have:=eN hk; omega⟩
        ·rw [MP] at cV sd
         refine .inr ⟨[0,1,2,3,4,5],[.ptr 0 0,.agg [.dv (I k.1),.dv (I k.2)],.dv (I x)],vK false (aL s done),0,_,_,cV,by kernel_rfl,by kernel_rfl,⟨rfl,⟨rf,rf,tv⟩,rf,tv⟩,⟨⟨rf,rf,rf,rf,rf,rf,rfl,rfl,rfl,rfl,rfl,tv⟩,⟨rfl,rfl⟩,⟨rfl,rfl⟩,⟨rfl,rfl⟩,⟨rfl,rfl⟩,⟨rfl,rfl⟩,tv⟩,?_⟩
         exact ⟨⟨left.eraseIdx pos,done++[(k,x)],true⟩,⟨⟨rfl,rfl,rf,rf,rf,rf,rf,rfl,tv⟩,⟨⟨rf,rf,rf,rf,rf,rf,rfl,rfl,rfl,rfl,rfl,tv⟩,⟨rfl,rfl⟩,⟨rfl,rfl⟩,⟨rfl,rfl⟩,⟨rfl,rfl⟩,⟨rfl,rfl⟩,⟨rf,rf,rf,rf,rf,rf,rf,tv⟩,tv,⟨rfl,rfl,rfl,cW _ _,.inl rfl,tv⟩,tv⟩,rfl,rfl⟩,⟨by simp only [List.append_assoc]; exact y7,sd.symm⟩,by simp only; have:=eN hk; omega⟩
       ·cases MP:cA s k x
        ·rw [MP] at cV sd
         refine .inr ⟨[0,1,2,3,4,5],[.ptr 0 0,.agg [.dv (I k.1),.dv (I k.2)],.dv (I x)],vK false (aL s done),0,_,_,cV,by kernel_rfl,by kernel_rfl,⟨rfl,⟨rf,rf,tv⟩,rf,tv⟩,⟨⟨rf,rf,rf,rf,rf,rf,rfl,rfl,rfl,rfl,rfl,tv⟩,⟨rfl,rfl⟩,⟨rfl,rfl⟩,⟨rfl,rfl⟩,⟨rfl,rfl⟩,⟨rfl,rfl⟩,tv⟩,?_⟩
         exact ⟨⟨left.eraseIdx pos,done++[(k,x)],true⟩,⟨⟨rfl,rfl,rf,rf,rf,rf,rf,rfl,tv⟩,⟨⟨rf,rf,rf,rf,rf,rf,rfl,rfl,rfl,rfl,rfl,tv⟩,⟨rfl,rfl⟩,⟨rfl,rfl⟩,⟨rfl,rfl⟩,⟨rfl,rfl⟩,⟨rfl,rfl⟩,⟨rf,rf,rf,rf,rf,rf,rf,tv⟩,tv,⟨rfl,rfl,rfl,cW _ _,.inl rfl,tv⟩,tv⟩,rfl,rfl⟩,⟨by simp only [List.append_assoc]; exact y7,sd.symm⟩,by simp only; have:=eN hk; omega⟩
        ·rw [MP] at cV sd
         refine .inr ⟨[0,1,2,3,4,5],[.ptr 0 0,.agg [.dv (I k.1),.dv (I k.2)],.dv (I x)],vK false (aL s done),0,_,_,cV,by kernel_rfl,by kernel_rfl,⟨rfl,⟨rf,rf,tv⟩,rf,tv⟩,⟨⟨rf,rf,rf,rf,rf,rf,rfl,rfl,rfl,rfl,rfl,tv⟩,⟨rfl,rfl⟩,⟨rfl,rfl⟩,⟨rfl,rfl⟩,⟨rfl,rfl⟩,⟨rfl,rfl⟩,tv⟩,?_⟩
         exact ⟨⟨left.eraseIdx pos,done++[(k,x)],true⟩,⟨⟨rfl,rfl,rf,rf,rf,rf,rf,rfl,tv⟩,⟨⟨rf,rf,rf,rf,rf,rf,rfl,rfl,rfl,rfl,rfl,tv⟩,⟨rfl,rfl⟩,⟨rfl,rfl⟩,⟨rfl,rfl⟩,⟨rfl,rfl⟩,⟨rfl,rfl⟩,⟨rf,rf,rf,rf,rf,rf,rf,tv⟩,tv,⟨rfl,rfl,rfl,cW _ _,.inl rfl,tv⟩,tv⟩,rfl,rfl⟩,⟨by simp only [List.append_assoc]; exact y7,sd.symm⟩,by simp only; have:=eN hk; omega⟩
    ·simp only at il
     rw [List.getElem?_map] at il
     obtain ⟨⟨k,x⟩,hk,rfl⟩:∃p,left[pos]?=some p∧cc=ni p:=by
      cases hq:left[pos]? with
      | none=>rw [hq] at il; cases il
      | some p=>rw [hq] at il; exact ⟨p,rfl,by simpa using il.symm⟩
     refine ⟨mo x,?_⟩
     refine ⟨gM,u4 k,rfl,rfl,I (hv s.H k),(bt s.H k).isSome,fun _=>Dy s.H k,Ik s.H k,rfl,?_⟩
     refine ⟨by kernel_rfl,?_⟩
     repeat first | refine ⟨id,?_⟩ | refine ⟨fun _ h=>bW h,?_⟩ | refine ⟨fun _ h=>ay h,?_⟩ | refine ⟨fun h=>⟨h,fun h2=>aF h h2⟩,?_⟩ | refine ⟨fun h=>⟨h,fun h2=>aA h h2⟩,?_⟩
     have E4:=qp s.H hk
     have hle:=eN hk
     refine ⟨fun hq=>?_,fun hq=>?_⟩
     ·have hd:DK s.H (k,x)=1:=by
       show (bif (bif hv s.H k == 0 then x != 0 else false) then (1:Int) else _)=1
       rw [show (bif hv s.H k == 0 then x != 0 else false)=true from hq]; rfl
      have h0:hv s.H k=0:=by
       cases hz:(hv s.H k == 0) with
       | true=>simpa using hz
       | false=>rw [hz] at hq; cases hq
      refine ⟨fun _=>⟨by simp only; omega,by simp only; omega⟩,?_⟩
      repeat first | refine ⟨id,?_⟩ | refine ⟨fun _ h=>bW h,?_⟩ | refine ⟨fun _ h=>ay h,?_⟩ | refine ⟨fun h=>⟨h,fun h2=>aF h h2⟩,?_⟩ | refine ⟨fun h=>⟨h,fun h2=>aA h h2⟩,?_⟩
      refine ⟨fun hr=>absurd hr (by rw [h0]; simp),fun _=>?_⟩
      exact ⟨⟨left.eraseIdx pos,sz+1⟩,⟨⟨rfl,rfl,rfl,rf,rf,rf,rf,rf,rf,rfl,tv⟩,⟨⟨rf,rf,rf,rf,rf,rf,rfl,rfl,rfl,rfl,rfl,tv⟩,⟨rfl,rfl⟩,⟨rfl,rfl⟩,⟨rfl,rfl⟩,⟨rfl,rfl⟩,⟨rfl,rfl⟩,⟨rf,rf,rf,rf,rf,rf,rf,tv⟩,tv,⟨rfl,rfl,rfl,cW _ _,.inl rfl,tv⟩,tv⟩,rfl,rfl⟩,⟨by simp only; omega,by simp only; omega,by simp only; omega,by simp only; omega⟩,by simp only; omega⟩
     ·repeat first | refine ⟨id,?_⟩ | refine ⟨fun _ h=>bW h,?_⟩ | refine ⟨fun _ h=>ay h,?_⟩ | refine ⟨fun h=>⟨h,fun h2=>aF h h2⟩,?_⟩ | refine ⟨fun h=>⟨h,fun h2=>aA h h2⟩,?_⟩
      refine ⟨fun hr=>?_,fun hr=>?_⟩
      ·have hd:DK s.H (k,x)=-1:=by
        show (bif (bif hv s.H k == 0 then x != 0 else false) then (1:Int) else bif (bif hv s.H k != 0 then x == 0 else false) then -1 else 0)=-1
        rw [show (bif hv s.H k == 0 then x != 0 else false)=false from hq,show (bif hv s.H k != 0 then x == 0 else false)=true from hr]; rfl
       refine ⟨fun _=>⟨by simp only; omega,by simp only; omega⟩,?_⟩
       exact ⟨⟨left.eraseIdx pos,sz - 1⟩,⟨⟨rfl,rfl,rfl,rf,rf,rf,rf,rf,rf,rfl,tv⟩,⟨⟨rf,rf,rf,rf,rf,rf,rfl,rfl,rfl,rfl,rfl,tv⟩,⟨rfl,rfl⟩,⟨rfl,rfl⟩,⟨rfl,rfl⟩,⟨rfl,rfl⟩,⟨rfl,rfl⟩,⟨rf,rf,rf,rf,rf,rf,rf,tv⟩,tv,⟨rfl,rfl,rfl,cW _ _,.inl rfl,tv⟩,tv⟩,rfl,rfl⟩,⟨by simp only; omega,by simp only; omega,by simp only; omega,by simp only; omega⟩,by simp only; omega⟩
      ·have hd:DK s.H (k,x)=0:=by
        show (bif (bif hv s.H k == 0 then x != 0 else false) then (1:Int) else bif (bif hv s.H k != 0 then x == 0 else false) then -1 else 0)=0
        rw [show (bif hv s.H k == 0 then x != 0 else false)=false from hq,show (bif hv s.H k != 0 then x == 0 else false)=false from hr]; rfl
       exact ⟨⟨left.eraseIdx pos,sz⟩,⟨⟨rfl,rfl,rfl,rf,rf,rf,rf,rf,rf,rfl,tv⟩,⟨⟨rf,rf,rf,rf,rf,rf,rfl,rfl,rfl,rfl,rfl,tv⟩,⟨rfl,rfl⟩,⟨rfl,rfl⟩,⟨rfl,rfl⟩,⟨rfl,rfl⟩,⟨rfl,rfl⟩,⟨rf,rf,rf,rf,rf,rf,rf,tv⟩,tv,⟨rfl,rfl,rfl,cW _ _,.inl rfl,tv⟩,tv⟩,rfl,rfl⟩,⟨by simp only; omega,by simp only; omega,by simp only; omega,by simp only; omega⟩,by simp only; omega⟩
end Go.Proofs.YtpbdohkbiklflaaGreatDoor
