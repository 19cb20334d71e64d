import Derived.Test.YtpbdohkbiklflaaGreatDoorPM23
set_option linter.unusedVariables false
set_option linter.unusedSimpArgs false
set_option linter.unusedSectionVars false
namespace Go.Proofs.YtpbdohkbiklflaaGreatDoor
open Go.TM
variable [cP]
set_option maxRecDepth 100000
def aI (s:Vs) (es:HM):Vs:=es.foldl (fun s e=>cG s e.1 e.1.2.toNat e.2) s
def CB (H:HM) (e:Ky × Int):Int:=bif bif decide (hv H e.1=0) then !(decide (e.2=0)) else false then 1 else bif bif !(decide (hv H e.1=0)) then decide (e.2=0) else false then -1 else 0
def iH (H:HM) (es:HM):Int:=(es.map (CB H)).foldr (·+·) 0
def fG (s:Vs) (es:HM):Bool:=es.any fun e=>cu s e.1 e.2
def dq (s:Vs) (S:SS) (j:Nat):List (Bool × List Sl):=(List.range 4).map fun i=>((s.sl.getD i (true,[])).1,bC (S.drop j) i)
def dg (s:Vs) (S:SS) (lv:Nat):Vs:={ s with sl:=dq s S lv,bS:=s.bS.drop lv,work:=s.work+lv }
def Ng (s:Vs) (S:SS) (lv:Nat) (Vx:Bool) (it:Nat) (tick n c:Int):Vs :=
 let s2:=dg s S lv
 let s3:=bif Vx then qQ s2 it (bC (S.drop lv) it) tick n c else s2
 {s3 with last:=tick }
inductive T9 where
 | err (e:Int)
 | ok (A:HM)
def K4 (s:Vs) (S:SS) (st:St):Int:=(s.H.length:Int)+(s.bS.length:Int) - (dx S (st.tick - s.ab):Int)+(bif (aZ s.coin st).2.2.2 then 1 else 0)
def eM (s:Vs) (S:SS) (st:St):T9 :=
 if (bif decide (st.tick<s.last) then true else decide (1099511627776<st.tick))=true then .err 1 else
 match kB s.H [] st.mv with
 | .err e=>.err e
 | .ok A=>if s.aD<K4 s S st+iH s.H A then .err 22 else .ok A
def cN (s:Vs) (S:SS) (st:St) (s1:Vs):Vs:=Ng s1 S (dx S (st.tick - s.ab)) (aZ s.coin st).2.2.2 (aZ s.coin st).1.toNat st.tick (aZ s.coin st).2.1 (aZ s.coin st).2.2.1
def lS (s:Vs) (S:SS) (st:St):T9→List AV→ah→Prop
 | .err e,rs,k=>rs=[.dv (I e)]∧k=vK false s
 | .ok A,rs,k=>∃done:HM,done.Perm A∧rs=[.dv (I 0)]∧k=xb (fG s A) (decide (0<dx S (st.tick - s.ab)) || (aZ s.coin st).2.2.2) true (cN s S st (aI s done))
def Vy (st:St):ao:=.cells [.dv (I st.id),.dv (I st.kind),.dv (I st.GI),.dv (I st.tick),.dv (I st.M8),.dv (I st.times),.dv (Au st.mv)]
theorem lT (x:Int):(I x).bF:=by
 intro d hd
 simp [DV.cells] at hd; subst hd; rfl
theorem cQ {α β:Type} {f:α→β}:∀(l:List α) (i:Nat),(l.map f).eraseIdx i=(l.eraseIdx i).map f
 | [],_=>rfl
 | _::_,0=>rfl
 | x::l,i+1=>by simp only [List.map_cons,List.eraseIdx_cons_succ]; rw [cQ l i]
theorem pB (H:HM) {e:Ky × Int}:∀{l:HM} {i:Nat},l[i]?=some e→iH H l=CB H e+iH H (l.eraseIdx i)
 | [],_,h=>by simp at h
 | x::l,0,h=>by simp at h; subst h; rfl
 | x::l,i+1,h=>by
  have:=pB H (l:=l) (i:=i) (by simpa using h)
  show CB H x+iH H l=CB H e+(CB H x+iH H (l.eraseIdx i))
  omega
theorem eG {α:Type} {l:List α} {i:Nat} {e:α} (h:l[i]?=some e):(l.eraseIdx i).length+1=l.length:=by
 have:=(List.getElem?_eq_some_iff.1 h).1
 rw [List.length_eraseIdx,if_pos this]; omega
structure Vz where
 left:HM
 sz:Int
def WW (s:Vs) (st:St) (A:HM) (it n c:Int) (b:Bool) (lv:Nat) (z:Vz):bo:=⟨10,[(0,.ptr 0 0),(3,.ptr 6 0),(5,.own 8 0 0 []),(7,.dv (I it)),(8,.dv (I n)),(9,.dv (I c)),(10,.dv (B b)),(11,.dv (I lv)),(12,.dv (I z.sz)),(62,.ptr 9 0)],vK false s++[(6,Vy st),(8,.held),(9,.jd 8 [] (.omap ei (A.map qO)) (z.left.map qO) none)]⟩
theorem H4 (s:Vs) (k:Ky) (i:Nat) (x:Int):(cG s k i x).bS=s.bS:=by
 unfold cG; split <;> (try rfl) <;> (simp only; split <;> rfl)
theorem Nh (s:Vs) (k:Ky) (i:Nat) (x:Int):(cG s k i x).sl=s.sl:=by
 unfold cG; split <;> (try rfl) <;> (simp only; split <;> rfl)
theorem jL (s:Vs) (es:HM):(aI s es).bS=s.bS:=by
 unfold aI
 induction es generalizing s with
 | nil=>rfl
 | cons e r ih=>rw [List.foldl_cons,ih,H4]
theorem nA (s:Vs) (es:HM):(aI s es).sl=s.sl:=by
 unfold aI
 induction es generalizing s with
 | nil=>rfl
 | cons e r ih=>rw [List.foldl_cons,ih,Nh]
theorem n9 (s:Vs) (k:Ky) (i:Nat) (x:Int):s.work≤(cG s k i x).work∧(cG s k i x).work≤s.work+1:=by
 unfold cG; split
 ·omega
 ·simp only; split <;> (simp only; omega)
theorem lU (s:Vs) (es:HM):s.work≤(aI s es).work∧(aI s es).work≤s.work+es.length:=by
 unfold aI
 induction es generalizing s with
 | nil=>simp
 | cons e r ih =>
  rw [List.foldl_cons]
  have h1:=ih (cG s e.1 e.1.2.toNat e.2)
  have h2:=n9 s e.1 e.1.2.toNat e.2
  simp only [List.length_cons]
  omega
theorem CC {α:Type} {l r:List α} (h:l.Perm r) (p:α→Bool):l.any p=r.any p:=by
 induction h with
 | nil=>rfl
 | cons x _ ih=>simp [ih]
 | swap x y l=>simp [Bool.or_left_comm]
 | trans _ _ YC YD=>exact YC.trans YD
theorem K5 {a b:List (Bool × List Sl)} (ha:a.length=4) (hb:b.length=4) (h:∀i,i<4→a[i]?=b[i]?):a=b:=by
 apply List.ext_getElem?
 intro i
 rcases Nat.lt_or_ge i 4 with h4 | h4
 ·exact h i h4
 ·rw [List.getElem?_eq_none (by omega),List.getElem?_eq_none (by omega)]
theorem cl (s:Vs) (S:SS) (j:Nat):(dq s S j).length=4:=by simp [dq]
theorem ir (s:Vs) (S:SS) (j i:Nat) (hi:i<4):(dq s S j)[i]?=some ((s.sl.getD i (true,[])).1,bC (S.drop j) i):=by
 unfold dq; rw [List.getElem?_map,List.getElem?_range hi]; rfl
theorem yJ {s:Vs} {S:SS} (h:n8 s S):dq s S 0=s.sl:=by
 refine K5 (cl ..) h.KT fun i hi=>?_
 rw [ir _ _ _ _ hi]
 have hl:i<s.sl.length:=by rw [h.KT]; exact hi
 have hx:=List.getElem?_eq_getElem hl
 rw [List.getD_eq_getElem?_getD,hx]
 generalize s.sl[i]=q at hx
 obtain ⟨f,l⟩:=q
 have:=h.sl _ _ _ hx
 rw [this]; rfl
theorem wx {S:SS} {j i:Nat} {x:Sl} (h:S[j]?=some (i,x)) (k:Nat):bC (S.drop j) k=if i=k then x::bC (S.drop (j+1)) k else bC (S.drop (j+1)) k:=by
 have aJ:=(List.getElem?_eq_some_iff.1 h).1
 have az:S.drop j=(i,x)::S.drop (j+1):=by rw [List.drop_eq_getElem_cons aJ]; congr 1; rw [List.getElem?_eq_getElem aJ] at h; injection h
 rw [az]
 unfold bC
 by_cases hk:i=k
 ·subst hk; simp
 ·simp [hk]
theorem oa {s:Vs} {S:SS} (h:n8 s S) {j i:Nat} {x:Sl} (hx:S[j]?=some (i,x)):(dq s S j)[i]?=some (false,x::bC (S.drop (j+1)) i)∧dq s S (j+1)=(dq s S j).set i (false,bC (S.drop (j+1)) i):=by
 have QB:i<4:=h.it _ (List.mem_of_getElem? hx)
 have hl:i<s.sl.length:=by rw [h.KT]; exact QB
 have hg:=List.getElem?_eq_getElem hl
 have hf:(s.sl.getD i (true,[])).1=false:=by
  rw [List.getD_eq_getElem?_getD,hg]
  generalize s.sl[i]=q at hg
  obtain ⟨f,l⟩:=q
  cases f with
  | false=>rfl
  | true =>
   have h1:=h.sl _ _ _ hg
   rw [h.sf _ _ _ hg rfl] at h1
   have h2:=wx hx i
   have hm:x∈bC S i:=by
    unfold bC
    exact List.mem_map.2 ⟨(i,x),List.mem_filter.2 ⟨List.mem_of_getElem? hx,by simp⟩,rfl⟩
   rw [←h1] at hm
   cases hm
 constructor
 ·rw [ir _ _ _ _ QB,hf,wx hx,if_pos rfl]
 ·refine K5 (cl ..) (by rw [List.length_set]; exact cl ..) fun k hk=>?_
  rw [ir _ _ _ _ hk]
  by_cases yw:i=k
  ·subst yw
   rw [List.getElem?_set_self (by rw [cl]; exact QB),hf]
  ·rw [List.getElem?_set_ne yw,ir _ _ _ _ hk,wx hx,if_neg yw]
structure VA where
 left:HM
 done:HM
 f:Bool
theorem pC {α:Type}:∀{l:List α} {i:Nat} {x:α},l[i]?=some x→l.Perm (x::l.eraseIdx i)
 | [],i,x,h=>by simp at h
 | y::l,0,x,h=>by simp at h; subst h; simp
 | y::l,i+1,x,h=>by
  simp only [List.getElem?_cons_succ] at h
  simp only [List.eraseIdx_cons_succ]
  exact ((pC h).cons y).trans (List.Perm.swap x y _)
def WX (s:Vs) (st:St) (A:HM) (it n c:Int) (b:Bool) (lv:Nat) (z:VA):bo:=⟨11,[(0,.ptr 0 0),(3,.ptr 6 0),(7,.dv (I it)),(8,.dv (I n)),(9,.dv (I c)),(10,.dv (B b)),(11,.dv (I lv)),(97,.ptr 10 0)],vK z.f (aI s z.done)++[(6,Vy st),(8,.held),(10,.jd 8 [] (.omap ei (A.map qO)) (z.left.map qO) none)]⟩
structure SQ where
 j:Nat
 h:Bool
def Ua (s s1:Vs) (S:SS) (st:St) (it n c:Int) (b:Bool) (lv:Nat) (f:Bool) (z:SQ):bo:=⟨11,[(0,.ptr 0 0),(3,.ptr 6 0),(7,.dv (I it)),(8,.dv (I n)),(9,.dv (I c)),(10,.dv (B b)),(11,.dv (I lv)),(112,.pre 5 0 0 [] 1 0 lv),(113,.dv (I lv)),(114,.dv (I z.j))],xb f z.h false { s1 with sl:=dq s S z.j }++[(6,Vy st)]⟩
theorem wy (m:HM) (k:Ky) (x:Int):(bP m k x).length≤m.length+1:=by
 induction m with
 | nil=>simp [bP]
 | cons p r ih =>
  simp only [bP]
  split
  ·simp
  ·simp only [List.length_cons]; omega
theorem uc {H:HM}:∀{l:List Mv} {m A:HM},kB H m l=.ok A→A.length≤m.length+2 * l.length
 | [],m,A,h=>by simp only [kB] at h; injection h with h; subst h; simp
 | v::r,m,A,h=>by
  simp only [kB] at h
  split at h
  ·cases h
  have hp:∀m1:HM,(if v.t ≠ 0 then bP m1 (v.t,v.it) (hold m1 H (v.t,v.it)+v.n) else m1).length≤m1.length+1:=by
   intro m1; split
   ·exact wy ..
   ·omega
  split at h
  ·split at h
   ·cases h
   ·have h1:=uc h
    have h2:=hp (bP m (v.f,v.it) (hold m H (v.f,v.it) - v.n))
    have h3:=wy m (v.f,v.it) (hold m H (v.f,v.it) - v.n)
    simp only [List.length_cons]
    omega
  ·have h1:=uc h
   have h2:=hp m
   simp only [List.length_cons]
   omega
theorem AA {H:HM}:∀{l:List Mv} {m:HM} {e:Int},kB H m l=.err e→e ≠ 0
 | [],m,e,h=>by simp only [kB] at h; cases h
 | v::r,m,e,h=>by
  simp only [kB] at h
  split at h
  ·injection h with h; omega
  split at h
  ·split at h
   ·injection h with h; omega
   ·exact AA h
  ·exact AA h
theorem lV {S:SS} {i:Nat} (h:bC S i=[]) (j:Nat):bC (S.drop j) i=[]:=by
 cases hq:bC (S.drop j) i with
 | nil=>rfl
 | cons x r =>
  have hm:x∈bC (S.drop j) i:=by rw [hq]; exact List.mem_cons_self
  unfold bC at hm
  obtain ⟨p,h1,h2⟩:=List.mem_map.1 hm
  obtain ⟨h3,h4⟩:=List.mem_filter.1 h1
  have h5:x∈bC S i:=by
   unfold bC
   exact List.mem_map.2 ⟨p,List.mem_filter.2 ⟨List.mem_of_mem_drop h3,h4⟩,h2⟩
  rw [h] at h5; cases h5
set_option maxHeartbeats 4000000 in
theorem H5 (s:Vs) (S:SS) (h:n8 s S) (st:St) (hl:st.mv.length≤1000) (hH:∀k,0≤hv s.H k∧hv s.H k≤1152921504606846976) (aT:s.H.length≤100000) (hw:1≤s.ab∧s.ab≤1099511627776) (mQ:0≤s.last) (SR:0≤s.work∧s.work≤1152921504606846976) (SU:∀j i,0≤iZ (bC (S.drop j) i)∧iZ (bC (S.drop j) i)≤1152921504606846976∧0≤ja (bC (S.drop j) i)∧ja (bC (S.drop j) i)≤1152921504606846976)
  (OK:∀A it n c,kB s.H [] st.mv=.ok A→aZ s.coin st=(it,n,c,true)→0≤it∧it<4∧1≤n∧n≤1099511627776∧1≤c∧c≤1099511627776)
  (iV:∀A,kB s.H [] st.mv=.ok A→∀done k now left,(done++(k,now)::left).Perm A→∃i:Nat,KN (aI s done) k i now∧cu (aI s done) k now=cu s k now) :
  dK Tryz.prog 21 [.ptr 0 0,ES st] 6 (vK false s) 9 (lS s S st (eM s S st)):=by
 refine x6 aK mixed (aq _) (ar _) Tryz.func21 rfl rfl (by kernel_rfl) ?_
 repeat first | refine ⟨id,?_⟩ | refine ⟨fun _ h=>cx h,?_⟩ | refine ⟨fun _ h=>ax h,?_⟩ | refine ⟨fun h=>⟨h,fun h2=>aP h h2⟩,?_⟩ | refine ⟨fun h=>⟨h,fun h2=>aC h h2⟩,?_⟩
 refine ⟨by kernel_rfl,fun hc=>?_,fun hc=>?_⟩
 ·have hr:eM s S st=.err 1:=by unfold eM; rw [if_pos hc]
  rw [hr]
  exact ⟨_,_,⟨rfl,rfl⟩,by kernel_rfl,⟨rf,tv⟩,⟨rf,rf,rf,rf,rf,rf,rfl,rfl,rfl,rfl,rfl,tv⟩,⟨rfl,rfl⟩,⟨rfl,rfl⟩,⟨rfl,rfl⟩,⟨rfl,rfl⟩,⟨rfl,rfl⟩,tv⟩
 have HY:s.last≤st.tick∧st.tick≤1099511627776:=by
  simp only [Bool.cond_true_left,Bool.or_eq_false_iff,decide_eq_false_iff_not] at hc; omega
 have Ub:=At s S h st.tick (by omega)
 have YE:=yC s (by rw [h.bS,List.length_map]; have:=h.len; omega)
 have tL:=M9 s st.mv hl hH
 have rh:eM s S st=match kB s.H [] st.mv with
  | .err e=>.err e
  | .ok A=>if s.aD<K4 s S st+iH s.H A then .err 22 else .ok A:=by
  unfold eM; rw [if_neg (by rw [hc]; simp)]
 cases hA:kB s.H [] st.mv with
 | err e =>
  rw [hA] at tL rh
  simp only at rh
  have Mw:e ≠ 0:=AA hA
  refine .inr ⟨[0,1,2,3,4,5],[.ptr 0 0,.dv (Au st.mv)],vK false s,2,_,_,tL,by kernel_rfl,by kernel_rfl,⟨rfl,rf,tv⟩,⟨⟨rf,rf,rf,rf,rf,rf,rfl,rfl,rfl,rfl,rfl,tv⟩,⟨rfl,rfl⟩,⟨rfl,rfl⟩,⟨rfl,rfl⟩,⟨rfl,rfl⟩,⟨rfl,rfl⟩,tv⟩,?_⟩
  refine ⟨fun _=>?_,fun h9=>absurd h9 (by simpa using Mw)⟩
  rw [rh]
  exact ⟨_,_,⟨rfl,rfl⟩,by kernel_rfl,⟨rf,tv⟩,⟨rf,rf,rf,rf,rf,rf,rfl,rfl,rfl,rfl,rfl,tv⟩,⟨rfl,rfl⟩,⟨rfl,rfl⟩,⟨rfl,rfl⟩,⟨rfl,rfl⟩,⟨rfl,rfl⟩,tv⟩
 | ok A =>
  rw [hA] at tL rh
  simp only at rh
  refine .inr ⟨[0,1,2,3,4,5],[.ptr 0 0,.dv (Au st.mv)],vK false s,2,_,_,tL,by kernel_rfl,by kernel_rfl,⟨rfl,rf,tv⟩,⟨⟨rf,rf,rf,rf,rf,rf,rfl,rfl,rfl,rfl,rfl,tv⟩,⟨rfl,rfl⟩,⟨rfl,rfl⟩,⟨rfl,rfl⟩,⟨rfl,rfl⟩,⟨rfl,rfl⟩,tv⟩,?_⟩
  refine ⟨fun h9=>by simp at h9,fun _=>?_⟩
  have VB:=Ct s st
  generalize GN:aZ s.coin st=sa at *
  obtain ⟨it,n,c,b⟩:=sa
  refine .inr ⟨[0,1,2,3,4,5],[.ptr 0 0,ES st],vK false s,0,_,_,VB,by kernel_rfl,by kernel_rfl,⟨rfl,⟨rf,rf,rf,rf,rf,rf,rf,tv⟩,tv⟩,⟨⟨rf,rf,rf,rf,rf,rf,rfl,rfl,rfl,rfl,rfl,tv⟩,⟨rfl,rfl⟩,⟨rfl,rfl⟩,⟨rfl,rfl⟩,⟨rfl,rfl⟩,⟨rfl,rfl⟩,tv⟩,?_⟩
  refine .inr ⟨[0,1,2,3,4,5],[.ptr 0 0,.dv (I st.tick)],vK false s,0,_,_,Ub,by kernel_rfl,by kernel_rfl,⟨rfl,rf,tv⟩,⟨⟨rf,rf,rf,rf,rf,rf,rfl,rfl,rfl,rfl,rfl,tv⟩,⟨rfl,rfl⟩,⟨rfl,rfl⟩,⟨rfl,rfl⟩,⟨rfl,rfl⟩,⟨rfl,rfl⟩,tv⟩,?_⟩
  refine .inr ⟨[0,1,2,3,4,5],[.ptr 0 0],vK false s,0,_,_,YE,by kernel_rfl,by kernel_rfl,⟨rfl,tv⟩,⟨⟨rf,rf,rf,rf,rf,rf,rfl,rfl,rfl,rfl,rfl,tv⟩,⟨rfl,rfl⟩,⟨rfl,rfl⟩,⟨rfl,rfl⟩,⟨rfl,rfl⟩,⟨rfl,rfl⟩,tv⟩,?_⟩
  have YF:dx S (st.tick - s.ab)≤1000:=Nat.le_trans (by unfold dx; exact (List.takeWhile_sublist _).length_le) h.len
  have YG:s.bS.length≤1000:=by rw [h.bS,List.length_map]; exact h.len
  refine ⟨fun _=>⟨by omega,by omega⟩,?_⟩
  have WY:A.length≤100000:=by have:=uc hA; simp only [List.length_nil] at this; omega
  generalize oz:dx S (st.tick - s.ab)=lv at *
  cases b
  ·refine ⟨fun hb=>(by cases hb),fun _=>?_⟩
   obtain ⟨z0,DA⟩:∃z0:Int,(s.H.length:Int)+(s.bS.length:Int) - (lv:Int)=z0:=⟨_,rfl⟩
   have VC:K4 s S st=z0:=by unfold K4; rw [GN,oz]; simp only [cond_false,Int.add_zero]; exact DA
   have MY:-1000≤z0∧z0≤1000000:=by omega
   rw [VC] at rh
   refine ⟨Vz,WW s st A it n c false lv,fun z=>z.sz+iH s.H z.left=z0+iH s.H A∧z0 - ((A.length:Int) - (z.left.length:Int))≤z.sz∧z.sz≤z0+((A.length:Int) - (z.left.length:Int))∧z.left.length≤A.length,fun z=>z.left.length,⟨A,z0⟩,fun _=>rfl,?_,?_,?_⟩
   ·exact ⟨⟨rfl,rfl,rfl,rf,rf,rf,rf,rf,aB DA,rfl,tv⟩,⟨⟨rf,rf,rf,rf,rf,rf,rfl,rfl,rfl,rfl,rfl,tv⟩,⟨rfl,rfl⟩,⟨rfl,rfl⟩,⟨rfl,rfl⟩,⟨rfl,rfl⟩,⟨rfl,rfl⟩,⟨rf,rf,rf,rf,rf,rf,rf,tv⟩,tv,⟨rfl,rfl,rfl,rfl,.inl rfl,tv⟩,tv⟩,rfl,rfl⟩
   ·exact ⟨rfl,by simp only; omega,by simp only; omega,Nat.le_refl _⟩
   ·rintro ⟨left,sz⟩ ⟨h1,h2,h3,h4⟩
    simp only at h1 h2 h3 h4
    refine ⟨tv,fun h5=>⟨(fun h6=>by cases h6),fun _=>?_⟩,fun pos cc gU=>⟨fun _=>?_,fun h6=>by cases h6⟩⟩
    ·have hz:left=[]:=by simpa using h5
     subst hz
     have VD:sz=z0+iH s.H A:=by have:iH s.H []=0:=rfl; omega
     refine ⟨fun hq=>?_,fun hq=>?_⟩
     ·have hq:s.aD<sz:=of_decide_eq_true hq
      rw [if_pos (by omega)] at rh
      rw [rh]
      exact ⟨_,_,⟨rfl,rfl⟩,by kernel_rfl,⟨rf,tv⟩,⟨rf,rf,rf,rf,rf,rf,rfl,rfl,rfl,rfl,rfl,tv⟩,⟨rfl,rfl⟩,⟨rfl,rfl⟩,⟨rfl,rfl⟩,⟨rfl,rfl⟩,⟨rfl,rfl⟩,tv⟩
     have hq:¬ s.aD<sz:=of_decide_eq_false hq
     rw [if_neg (by omega)] at rh
     rw [rh]
     refine ⟨VA,WX s st A it n c false lv,fun z=>(z.done++z.left).Perm A∧z.f=fG s z.done,fun z=>z.left.length,⟨A,[],false⟩,fun z=>by obtain ⟨z1,z2,z3⟩:=z; cases z3 <;> rfl,?_,?_,?_⟩
     ·exact ⟨⟨rfl,rfl,rf,rf,rf,rf,rf,rfl,tv⟩,⟨⟨rf,rf,rf,rf,rf,rf,rfl,rfl,rfl,rfl,rfl,tv⟩,⟨rfl,rfl⟩,⟨rfl,rfl⟩,⟨rfl,rfl⟩,⟨rfl,rfl⟩,⟨rfl,rfl⟩,⟨rf,rf,rf,rf,rf,rf,rf,tv⟩,tv,⟨rfl,rfl,rfl,rfl,.inl rfl,tv⟩,tv⟩,rfl,rfl⟩
     ·exact ⟨List.Perm.refl _,rfl⟩
     ·rintro ⟨left,done,f⟩ ⟨g1,g2⟩
      simp only at g1 g2
      refine ⟨tv,fun h5=>⟨(fun h6=>by cases h6),fun _=>?_⟩,fun pos cc gU=>⟨fun _=>?_,fun h6=>by cases h6⟩⟩
      ·have hz:left=[]:=by simpa using h5
       subst hz
       have k1:(aI s done).bS=s.bS:=jL s done
       have k2:(aI s done).sl=s.sl:=nA s done
       have k3:s.bS.length=S.length:=by rw [h.bS,List.length_map]
       have k4:lv≤S.length:=by rw [←oz]; unfold dx; exact (List.takeWhile_sublist _).length_le
       have k5:f=fG s A:=by rw [g2]; unfold fG; exact CC (by simpa using g1) _
       have k6:done.Perm A:=by simpa using g1
       have k8:=lU s done
       have k9:done.length≤100000:=by rw [k6.length_eq]; exact WY
       generalize fb:aI s done=s1 at *
       have SV:dq s S 0=s1.sl:=by rw [k2]; exact yJ h
       cases f
       ·refine .inr (.inl ⟨fun _=>⟨by simp,by simp,by simp only [k1,List.length_map,Option.getD_some]; omega⟩,?_⟩)
        refine ⟨SQ,Ua s s1 S st it n c false lv false,fun z=>z.j≤lv∧z.h=decide (0<z.j),fun z=>lv - z.j,⟨0,false⟩,fun z=>by obtain ⟨z1,z2⟩:=z; cases z2 <;> rfl,?_,?_,?_⟩
        ·exact ⟨⟨rfl,rfl,rf,rf,rf,rf,rf,rfl,rf,rf,tv⟩,⟨⟨rf,rf,rf,rf,rf,rf,rfl,rfl,rfl,rfl,rfl,tv⟩,⟨rfl,rfl⟩,⟨rfl,rfl⟩,⟨rfl,rfl⟩,⟨rfl,by rw [SV]⟩,⟨rfl,rfl⟩,⟨rf,rf,rf,rf,rf,rf,rf,tv⟩,tv⟩,rfl,rfl⟩
        ·exact ⟨Nat.zero_le _,rfl⟩
        ·rintro ⟨j,hh⟩ ⟨q1,q2⟩
         simp only at q1 q2
         refine ⟨fun aJ=>?_,fun dw=>?_⟩
         ·have aJ:j<lv:=by have:=of_decide_eq_true aJ; simp only [Int.ofNat_lt] at this; exact this
          obtain ⟨⟨i4,x0⟩,kl⟩:∃q,S[j]?=some q:=⟨_,List.getElem?_eq_getElem (by omega)⟩
          have QB:i4<4:=h.it _ (List.mem_of_getElem? kl)
          have ou:(s1.bS.map I)[0+((j:Int)).toNat]?=some (I (i4:Int)):=by rw [k1,h.bS,List.map_map,List.getElem?_map,Nat.zero_add,Int.toNat_natCast,kl]; rfl
          obtain ⟨e1,e2⟩:=oa h kl
          have gD:((dq s S j).map mE)[((i4:Int)).toNat]?=some (.ay 5 (bU x0::(bC (S.drop (j+1)) i4).map bU)):=by rw [List.getElem?_map,Int.toNat_natCast,e1]; rfl
          refine ⟨fun _=>⟨by simp only; omega,by simp only; omega⟩,I (i4:Int),fun _=>ou,?_⟩
          have eo:(0:Int)≤(i4:Int)∧(i4:Int)<(((dq s S j).map mE).length:Int):=⟨by omega,by rw [List.length_map,cl]; omega⟩
          have b4:DV.ay 1 ((((dq s S j).map mE).set ((i4:Int)).toNat .any).set ((i4:Int)).toNat (.ay 5 ((bC (S.drop (j+1)) i4).map bU)))=.ay 1 ((dq s S (j+1)).map mE):=by
           rw [List.set_set,Int.toNat_natCast,e2,List.map_set]; rfl
          have wz:DV.ay 5 (List.drop 1 (List.take ((((bU x0::(bC (S.drop (j+1)) i4).map bU).length:Nat):Int)).toNat (bU x0::(bC (S.drop (j+1)) i4).map bU)))=DV.ay 5 ((bC (S.drop (j+1)) i4).map bU):=by
           rw [Int.toNat_natCast,List.take_length]; rfl
          cases hh
          ·refine ⟨fun _=>eo,.ay 5 (bU x0::(bC (S.drop (j+1)) i4).map bU),fun _=>gD,?_⟩
           refine .inr (.inr ⟨.ay 5 (bU x0::(bC (S.drop (j+1)) i4).map bU),fun _=>gD,⟨by simp,by simp; omega,by simp⟩,?_⟩)
           refine ⟨.ay 5 (bU x0::(bC (S.drop (j+1)) i4).map bU),gD,?_⟩
           refine ⟨fun _=>by rw [List.length_set]; exact eo,[.ay 5 ((bC (S.drop (j+1)) i4).map bU)],⟨wz,tv⟩,.any,List.getElem?_set_self (by rw [List.length_map,cl]; omega),?_⟩
           refine ⟨by kernel_rfl,fun _=>⟨by simp only; omega,by simp only; omega⟩,⟨j+1,true⟩,⟨⟨rfl,rfl,rf,rf,rf,rf,rf,rfl,rf,aB (by simp),tv⟩,⟨⟨rf,rf,rf,rf,rf,rf,rfl,rfl,rfl,rfl,rfl,tv⟩,⟨rfl,rfl⟩,⟨rfl,rfl⟩,⟨rfl,rfl⟩,⟨rfl,b4⟩,⟨rfl,rfl⟩,⟨rf,rf,rf,rf,rf,rf,rf,tv⟩,tv⟩,rfl,rfl⟩,⟨by simp only; omega,by simp⟩,by simp only; omega⟩
          ·refine ⟨fun _=>eo,.ay 5 (bU x0::(bC (S.drop (j+1)) i4).map bU),fun _=>gD,?_⟩
           refine .inr (.inr ⟨.ay 5 (bU x0::(bC (S.drop (j+1)) i4).map bU),fun _=>gD,⟨by simp,by simp; omega,by simp⟩,?_⟩)
           refine ⟨.ay 5 (bU x0::(bC (S.drop (j+1)) i4).map bU),gD,?_⟩
           refine ⟨fun _=>by rw [List.length_set]; exact eo,[.ay 5 ((bC (S.drop (j+1)) i4).map bU)],⟨wz,tv⟩,.any,List.getElem?_set_self (by rw [List.length_map,cl]; omega),?_⟩
           refine ⟨by kernel_rfl,fun _=>⟨by simp only; omega,by simp only; omega⟩,⟨j+1,true⟩,⟨⟨rfl,rfl,rf,rf,rf,rf,rf,rfl,rf,aB (by simp),tv⟩,⟨⟨rf,rf,rf,rf,rf,rf,rfl,rfl,rfl,rfl,rfl,tv⟩,⟨rfl,rfl⟩,⟨rfl,rfl⟩,⟨rfl,rfl⟩,⟨rfl,b4⟩,⟨rfl,rfl⟩,⟨rf,rf,rf,rf,rf,rf,rf,tv⟩,tv⟩,rfl,rfl⟩,⟨by simp only; omega,by simp⟩,by simp only; omega⟩
         ·have dw:j=lv:=by have:=of_decide_eq_false dw; simp only [Int.ofNat_lt] at this; omega
          subst dw
          have uU:DV.ay 1 (List.drop ((j:Int)).toNat (List.take (((s1.bS.map I).length:Nat):Int).toNat (s1.bS.map I)))=vK.iM (s1.bS.drop j):=by
           rw [Int.toNat_natCast,Int.toNat_natCast,List.take_length,←List.map_drop]; rfl
          refine .inl ⟨⟨by simp,by simp only [Option.getD_some,Option.getD_none,List.length_map,k1,k3]; omega,by simp⟩,fun _=>⟨by simp only; omega,by simp only; omega⟩,?_⟩
          refine ⟨(fun h9=>by cases h9),fun _=>?_⟩
          have k7:dq s1 S j=dq s S j:=by unfold dq; rw [k2]
          cases hh
          ·have sk:lS s S st (.ok A) [.dv (I 0)] (xb false false true { dg s1 S j with last:=st.tick }):=by
            refine ⟨done,k6,rfl,?_⟩
            rw [fb,←k5,GN,oz,←q2]
            have h0:cN s S st s1={ dg s1 S j with last:=st.tick }:=by unfold cN; rw [GN,oz]; rfl
            rw [h0]; simp
           exact ⟨_,_,sk,by kernel_rfl,⟨rf,tv⟩,⟨rf,rf,rf,rf,rf,rf,rfl,rfl,rfl,rfl,rfl,tv⟩,⟨rfl,rfl⟩,⟨rfl,rfl⟩,⟨rfl,rfl⟩,⟨rfl,by rw [←k7]; rfl⟩,⟨rfl,uU⟩,tv⟩
          ·have sk:lS s S st (.ok A) [.dv (I 0)] (xb false true true { dg s1 S j with last:=st.tick }):=by
            refine ⟨done,k6,rfl,?_⟩
            rw [fb,←k5,GN,oz,←q2]
            have h0:cN s S st s1={ dg s1 S j with last:=st.tick }:=by unfold cN; rw [GN,oz]; rfl
            rw [h0]; simp
           exact ⟨_,_,sk,by kernel_rfl,⟨rf,tv⟩,⟨rf,rf,rf,rf,rf,rf,rfl,rfl,rfl,rfl,rfl,tv⟩,⟨rfl,rfl⟩,⟨rfl,rfl⟩,⟨rfl,rfl⟩,⟨rfl,by rw [←k7]; rfl⟩,⟨rfl,uU⟩,tv⟩
       ·refine .inr (.inl ⟨fun _=>⟨by simp,by simp,by simp only [k1,List.length_map,Option.getD_some]; omega⟩,?_⟩)
        refine ⟨SQ,Ua s s1 S st it n c false lv true,fun z=>z.j≤lv∧z.h=decide (0<z.j),fun z=>lv - z.j,⟨0,false⟩,fun z=>by obtain ⟨z1,z2⟩:=z; cases z2 <;> rfl,?_,?_,?_⟩
        ·exact ⟨⟨rfl,rfl,rf,rf,rf,rf,rf,rfl,rf,rf,tv⟩,⟨⟨rf,rf,rf,rf,rf,rf,rfl,rfl,rfl,rfl,rfl,tv⟩,⟨rfl,rfl⟩,⟨rfl,rfl⟩,⟨rfl,rfl⟩,⟨rfl,by rw [SV]⟩,⟨rfl,rfl⟩,⟨rf,rf,rf,rf,rf,rf,rf,tv⟩,tv⟩,rfl,rfl⟩
        ·exact ⟨Nat.zero_le _,rfl⟩
        ·rintro ⟨j,hh⟩ ⟨q1,q2⟩
         simp only at q1 q2
         refine ⟨fun aJ=>?_,fun dw=>?_⟩
         ·have aJ:j<lv:=by have:=of_decide_eq_true aJ; simp only [Int.ofNat_lt] at this; exact this
          obtain ⟨⟨i4,x0⟩,kl⟩:∃q,S[j]?=some q:=⟨_,List.getElem?_eq_getElem (by omega)⟩
          have QB:i4<4:=h.it _ (List.mem_of_getElem? kl)
          have ou:(s1.bS.map I)[0+((j:Int)).toNat]?=some (I (i4:Int)):=by rw [k1,h.bS,List.map_map,List.getElem?_map,Nat.zero_add,Int.toNat_natCast,kl]; rfl
          obtain ⟨e1,e2⟩:=oa h kl
          have gD:((dq s S j).map mE)[((i4:Int)).toNat]?=some (.ay 5 (bU x0::(bC (S.drop (j+1)) i4).map bU)):=by rw [List.getElem?_map,Int.toNat_natCast,e1]; rfl
          refine ⟨fun _=>⟨by simp only; omega,by simp only; omega⟩,I (i4:Int),fun _=>ou,?_⟩
          have eo:(0:Int)≤(i4:Int)∧(i4:Int)<(((dq s S j).map mE).length:Int):=⟨by omega,by rw [List.length_map,cl]; omega⟩
          have b4:DV.ay 1 ((((dq s S j).map mE).set ((i4:Int)).toNat .any).set ((i4:Int)).toNat (.ay 5 ((bC (S.drop (j+1)) i4).map bU)))=.ay 1 ((dq s S (j+1)).map mE):=by
           rw [List.set_set,Int.toNat_natCast,e2,List.map_set]; rfl
          have wz:DV.ay 5 (List.drop 1 (List.take ((((bU x0::(bC (S.drop (j+1)) i4).map bU).length:Nat):Int)).toNat (bU x0::(bC (S.drop (j+1)) i4).map bU)))=DV.ay 5 ((bC (S.drop (j+1)) i4).map bU):=by
           rw [Int.toNat_natCast,List.take_length]; rfl
          cases hh
          ·refine ⟨fun _=>eo,.ay 5 (bU x0::(bC (S.drop (j+1)) i4).map bU),fun _=>gD,?_⟩
           refine .inr (.inr ⟨.ay 5 (bU x0::(bC (S.drop (j+1)) i4).map bU),fun _=>gD,⟨by simp,by simp; omega,by simp⟩,?_⟩)
           refine ⟨.ay 5 (bU x0::(bC (S.drop (j+1)) i4).map bU),gD,?_⟩
           refine ⟨fun _=>by rw [List.length_set]; exact eo,[.ay 5 ((bC (S.drop (j+1)) i4).map bU)],⟨wz,tv⟩,.any,List.getElem?_set_self (by rw [List.length_map,cl]; omega),?_⟩
           refine ⟨by kernel_rfl,fun _=>⟨by simp only; omega,by simp only; omega⟩,⟨j+1,true⟩,⟨⟨rfl,rfl,rf,rf,rf,rf,rf,rfl,rf,aB (by simp),tv⟩,⟨⟨rf,rf,rf,rf,rf,rf,rfl,rfl,rfl,rfl,rfl,tv⟩,⟨rfl,rfl⟩,⟨rfl,rfl⟩,⟨rfl,rfl⟩,⟨rfl,b4⟩,⟨rfl,rfl⟩,⟨rf,rf,rf,rf,rf,rf,rf,tv⟩,tv⟩,rfl,rfl⟩,⟨by simp only; omega,by simp⟩,by simp only; omega⟩
          ·refine ⟨fun _=>eo,.ay 5 (bU x0::(bC (S.drop (j+1)) i4).map bU),fun _=>gD,?_⟩
           refine .inr (.inr ⟨.ay 5 (bU x0::(bC (S.drop (j+1)) i4).map bU),fun _=>gD,⟨by simp,by simp; omega,by simp⟩,?_⟩)
           refine ⟨.ay 5 (bU x0::(bC (S.drop (j+1)) i4).map bU),gD,?_⟩
           refine ⟨fun _=>by rw [List.length_set]; exact eo,[.ay 5 ((bC (S.drop (j+1)) i4).map bU)],⟨wz,tv⟩,.any,List.getElem?_set_self (by rw [List.length_map,cl]; omega),?_⟩
           refine ⟨by kernel_rfl,fun _=>⟨by simp only; omega,by simp only; omega⟩,⟨j+1,true⟩,⟨⟨rfl,rfl,rf,rf,rf,rf,rf,rfl,rf,aB (by simp),tv⟩,⟨⟨rf,rf,rf,rf,rf,rf,rfl,rfl,rfl,rfl,rfl,tv⟩,⟨rfl,rfl⟩,⟨rfl,rfl⟩,⟨rfl,rfl⟩,⟨rfl,b4⟩,⟨rfl,rfl⟩,⟨rf,rf,rf,rf,rf,rf,rf,tv⟩,tv⟩,rfl,rfl⟩,⟨by simp only; omega,by simp⟩,by simp only; omega⟩
         ·have dw:j=lv:=by have:=of_decide_eq_false dw; simp only [Int.ofNat_lt] at this; omega
          subst dw
          have uU:DV.ay 1 (List.drop ((j:Int)).toNat (List.take (((s1.bS.map I).length:Nat):Int).toNat (s1.bS.map I)))=vK.iM (s1.bS.drop j):=by
           rw [Int.toNat_natCast,Int.toNat_natCast,List.take_length,←List.map_drop]; rfl
          refine .inl ⟨⟨by simp,by simp only [Option.getD_some,Option.getD_none,List.length_map,k1,k3]; omega,by simp⟩,fun _=>⟨by simp only; omega,by simp only; omega⟩,?_⟩
          refine ⟨(fun h9=>by cases h9),fun _=>?_⟩
          have k7:dq s1 S j=dq s S j:=by unfold dq; rw [k2]
          cases hh
          ·have sk:lS s S st (.ok A) [.dv (I 0)] (xb true false true { dg s1 S j with last:=st.tick }):=by
            refine ⟨done,k6,rfl,?_⟩
            rw [fb,←k5,GN,oz,←q2]
            have h0:cN s S st s1={ dg s1 S j with last:=st.tick }:=by unfold cN; rw [GN,oz]; rfl
            rw [h0]; simp
           exact ⟨_,_,sk,by kernel_rfl,⟨rf,tv⟩,⟨rf,rf,rf,rf,rf,rf,rfl,rfl,rfl,rfl,rfl,tv⟩,⟨rfl,rfl⟩,⟨rfl,rfl⟩,⟨rfl,rfl⟩,⟨rfl,by rw [←k7]; rfl⟩,⟨rfl,uU⟩,tv⟩
          ·have sk:lS s S st (.ok A) [.dv (I 0)] (xb true true true { dg s1 S j with last:=st.tick }):=by
            refine ⟨done,k6,rfl,?_⟩
            rw [fb,←k5,GN,oz,←q2]
            have h0:cN s S st s1={ dg s1 S j with last:=st.tick }:=by unfold cN; rw [GN,oz]; rfl
            rw [h0]; simp
           exact ⟨_,_,sk,by kernel_rfl,⟨rf,tv⟩,⟨rf,rf,rf,rf,rf,rf,rfl,rfl,rfl,rfl,rfl,tv⟩,⟨rfl,rfl⟩,⟨rfl,rfl⟩,⟨rfl,rfl⟩,⟨rfl,by rw [←k7]; rfl⟩,⟨rfl,uU⟩,tv⟩
      ·simp only at gU
       rw [List.getElem?_map] at gU
       obtain ⟨⟨k,x⟩,hk,rfl⟩:∃p,left[pos]?=some p∧cc=qO p:=by
        cases hq:left[pos]? with
        | none=>rw [hq] at gU; cases gU
        | some p=>rw [hq] at gU; exact ⟨p,rfl,by simpa using gU.symm⟩
       refine ⟨lT x,?_⟩
       have yb:(done++(k,x)::left.eraseIdx pos).Perm A:=((pC hk).append_left done).symm.trans g1
       obtain ⟨ii,bY,VE⟩:=iV A hA done k x _ yb
       have cM:=Cr (aI s done) k ii x bY
       have Ck:cG (aI s done) k ii x=aI s (done++[(k,x)]):=by
        unfold aI; rw [List.foldl_append]; show cG _ k ii x=cG _ k k.2.toNat x
        rw [show k.2.toNat=ii by have:=bY.it; omega]
       rw [Ck,VE] at cM
       have sH:fG s (done++[(k,x)])=(f || cu s k x):=by unfold fG; rw [List.any_append,g2]; simp [fG]
       cases f
       ·cases H6:cu s k x
        ·rw [H6] at cM sH
         refine .inr ⟨[0,1,2,3,4,5],[.ptr 0 0,.agg [.dv (I k.1),.dv (I k.2)],.dv (I x)],vK false (aI s done),0,_,_,cM,by kernel_rfl,by kernel_rfl,⟨rfl,⟨rf,rf,tv⟩,rf,tv⟩,⟨⟨rf,rf,rf,rf,rf,rf,rfl,rfl,rfl,rfl,rfl,tv⟩,⟨rfl,rfl⟩,⟨rfl,rfl⟩,⟨rfl,rfl⟩,⟨rfl,rfl⟩,⟨rfl,rfl⟩,tv⟩,?_⟩
         exact ⟨⟨left.eraseIdx pos,done++[(k,x)],false⟩,⟨⟨rfl,rfl,rf,rf,rf,rf,rf,rfl,tv⟩,⟨⟨rf,rf,rf,rf,rf,rf,rfl,rfl,rfl,rfl,rfl,tv⟩,⟨rfl,rfl⟩,⟨rfl,rfl⟩,⟨rfl,rfl⟩,⟨rfl,rfl⟩,⟨rfl,rfl⟩,⟨rf,rf,rf,rf,rf,rf,rf,tv⟩,tv,⟨rfl,rfl,rfl,cQ _ _,.inl rfl,tv⟩,tv⟩,rfl,rfl⟩,⟨by simp only [List.append_assoc]; exact yb,sH.symm⟩,by simp only; have:=eG hk; omega⟩
        ·rw [H6] at cM sH
         refine .inr ⟨[0,1,2,3,4,5],[.ptr 0 0,.agg [.dv (I k.1),.dv (I k.2)],.dv (I x)],vK false (aI s done),0,_,_,cM,by kernel_rfl,by kernel_rfl,⟨rfl,⟨rf,rf,tv⟩,rf,tv⟩,⟨⟨rf,rf,rf,rf,rf,rf,rfl,rfl,rfl,rfl,rfl,tv⟩,⟨rfl,rfl⟩,⟨rfl,rfl⟩,⟨rfl,rfl⟩,⟨rfl,rfl⟩,⟨rfl,rfl⟩,tv⟩,?_⟩
         exact ⟨⟨left.eraseIdx pos,done++[(k,x)],true⟩,⟨⟨rfl,rfl,rf,rf,rf,rf,rf,rfl,tv⟩,⟨⟨rf,rf,rf,rf,rf,rf,rfl,rfl,rfl,rfl,rfl,tv⟩,⟨rfl,rfl⟩,⟨rfl,rfl⟩,⟨rfl,rfl⟩,⟨rfl,rfl⟩,⟨rfl,rfl⟩,⟨rf,rf,rf,rf,rf,rf,rf,tv⟩,tv,⟨rfl,rfl,rfl,cQ _ _,.inl rfl,tv⟩,tv⟩,rfl,rfl⟩,⟨by simp only [List.append_assoc]; exact yb,sH.symm⟩,by simp only; have:=eG hk; omega⟩
       ·cases H6:cu s k x
        ·rw [H6] at cM sH
         refine .inr ⟨[0,1,2,3,4,5],[.ptr 0 0,.agg [.dv (I k.1),.dv (I k.2)],.dv (I x)],vK false (aI s done),0,_,_,cM,by kernel_rfl,by kernel_rfl,⟨rfl,⟨rf,rf,tv⟩,rf,tv⟩,⟨⟨rf,rf,rf,rf,rf,rf,rfl,rfl,rfl,rfl,rfl,tv⟩,⟨rfl,rfl⟩,⟨rfl,rfl⟩,⟨rfl,rfl⟩,⟨rfl,rfl⟩,⟨rfl,rfl⟩,tv⟩,?_⟩
         exact ⟨⟨left.eraseIdx pos,done++[(k,x)],true⟩,⟨⟨rfl,rfl,rf,rf,rf,rf,rf,rfl,tv⟩,⟨⟨rf,rf,rf,rf,rf,rf,rfl,rfl,rfl,rfl,rfl,tv⟩,⟨rfl,rfl⟩,⟨rfl,rfl⟩,⟨rfl,rfl⟩,⟨rfl,rfl⟩,⟨rfl,rfl⟩,⟨rf,rf,rf,rf,rf,rf,rf,tv⟩,tv,⟨rfl,rfl,rfl,cQ _ _,.inl rfl,tv⟩,tv⟩,rfl,rfl⟩,⟨by simp only [List.append_assoc]; exact yb,sH.symm⟩,by simp only; have:=eG hk; omega⟩
        ·rw [H6] at cM sH
         refine .inr ⟨[0,1,2,3,4,5],[.ptr 0 0,.agg [.dv (I k.1),.dv (I k.2)],.dv (I x)],vK false (aI s done),0,_,_,cM,by kernel_rfl,by kernel_rfl,⟨rfl,⟨rf,rf,tv⟩,rf,tv⟩,⟨⟨rf,rf,rf,rf,rf,rf,rfl,rfl,rfl,rfl,rfl,tv⟩,⟨rfl,rfl⟩,⟨rfl,rfl⟩,⟨rfl,rfl⟩,⟨rfl,rfl⟩,⟨rfl,rfl⟩,tv⟩,?_⟩
         exact ⟨⟨left.eraseIdx pos,done++[(k,x)],true⟩,⟨⟨rfl,rfl,rf,rf,rf,rf,rf,rfl,tv⟩,⟨⟨rf,rf,rf,rf,rf,rf,rfl,rfl,rfl,rfl,rfl,tv⟩,⟨rfl,rfl⟩,⟨rfl,rfl⟩,⟨rfl,rfl⟩,⟨rfl,rfl⟩,⟨rfl,rfl⟩,⟨rf,rf,rf,rf,rf,rf,rf,tv⟩,tv,⟨rfl,rfl,rfl,cQ _ _,.inl rfl,tv⟩,tv⟩,rfl,rfl⟩,⟨by simp only [List.append_assoc]; exact yb,sH.symm⟩,by simp only; have:=eG hk; omega⟩
    ·simp only at gU
     rw [List.getElem?_map] at gU
     obtain ⟨⟨k,x⟩,hk,rfl⟩:∃p,left[pos]?=some p∧cc=qO p:=by
      cases hq:left[pos]? with
      | none=>rw [hq] at gU; cases gU
      | some p=>rw [hq] at gU; exact ⟨p,rfl,by simpa using gU.symm⟩
     refine ⟨lT x,?_⟩
     refine ⟨gX,xa k,rfl,rfl,I (hv s.H k),(bp s.H k).isSome,fun _=>Cu s.H k,GK s.H k,rfl,?_⟩
     refine ⟨by kernel_rfl,?_⟩
     repeat first | refine ⟨id,?_⟩ | refine ⟨fun _ h=>cx h,?_⟩ | refine ⟨fun _ h=>ax h,?_⟩ | refine ⟨fun h=>⟨h,fun h2=>aP h h2⟩,?_⟩ | refine ⟨fun h=>⟨h,fun h2=>aC h h2⟩,?_⟩
     have DP:=pB s.H hk
     have hle:=eG hk
     refine ⟨fun hq=>?_,fun hq=>?_⟩
     ·have hd:CB s.H (k,x)=1:=by
       show (bif (bif hv s.H k == 0 then x != 0 else false) then (1:Int) else _)=1
       rw [show (bif hv s.H k == 0 then x != 0 else false)=true from hq]; rfl
      have h0:hv s.H k=0:=by
       cases hz:(hv s.H k == 0) with
       | true=>simpa using hz
       | false=>rw [hz] at hq; cases hq
      refine ⟨fun _=>⟨by simp only; omega,by simp only; omega⟩,?_⟩
      repeat first | refine ⟨id,?_⟩ | refine ⟨fun _ h=>cx h,?_⟩ | refine ⟨fun _ h=>ax h,?_⟩ | refine ⟨fun h=>⟨h,fun h2=>aP h h2⟩,?_⟩ | refine ⟨fun h=>⟨h,fun h2=>aC h h2⟩,?_⟩
      refine ⟨fun hr=>absurd hr (by rw [h0]; simp),fun _=>?_⟩
      exact ⟨⟨left.eraseIdx pos,sz+1⟩,⟨⟨rfl,rfl,rfl,rf,rf,rf,rf,rf,rf,rfl,tv⟩,⟨⟨rf,rf,rf,rf,rf,rf,rfl,rfl,rfl,rfl,rfl,tv⟩,⟨rfl,rfl⟩,⟨rfl,rfl⟩,⟨rfl,rfl⟩,⟨rfl,rfl⟩,⟨rfl,rfl⟩,⟨rf,rf,rf,rf,rf,rf,rf,tv⟩,tv,⟨rfl,rfl,rfl,cQ _ _,.inl rfl,tv⟩,tv⟩,rfl,rfl⟩,⟨by simp only; omega,by simp only; omega,by simp only; omega,by simp only; omega⟩,by simp only; omega⟩
     ·repeat first | refine ⟨id,?_⟩ | refine ⟨fun _ h=>cx h,?_⟩ | refine ⟨fun _ h=>ax h,?_⟩ | refine ⟨fun h=>⟨h,fun h2=>aP h h2⟩,?_⟩ | refine ⟨fun h=>⟨h,fun h2=>aC h h2⟩,?_⟩
      refine ⟨fun hr=>?_,fun hr=>?_⟩
      ·have hd:CB s.H (k,x)=-1:=by
        show (bif (bif hv s.H k == 0 then x != 0 else false) then (1:Int) else bif (bif hv s.H k != 0 then x == 0 else false) then -1 else 0)=-1
        rw [show (bif hv s.H k == 0 then x != 0 else false)=false from hq,show (bif hv s.H k != 0 then x == 0 else false)=true from hr]; rfl
       refine ⟨fun _=>⟨by simp only; omega,by simp only; omega⟩,?_⟩
       exact ⟨⟨left.eraseIdx pos,sz - 1⟩,⟨⟨rfl,rfl,rfl,rf,rf,rf,rf,rf,rf,rfl,tv⟩,⟨⟨rf,rf,rf,rf,rf,rf,rfl,rfl,rfl,rfl,rfl,tv⟩,⟨rfl,rfl⟩,⟨rfl,rfl⟩,⟨rfl,rfl⟩,⟨rfl,rfl⟩,⟨rfl,rfl⟩,⟨rf,rf,rf,rf,rf,rf,rf,tv⟩,tv,⟨rfl,rfl,rfl,cQ _ _,.inl rfl,tv⟩,tv⟩,rfl,rfl⟩,⟨by simp only; omega,by simp only; omega,by simp only; omega,by simp only; omega⟩,by simp only; omega⟩
      ·have hd:CB s.H (k,x)=0:=by
        show (bif (bif hv s.H k == 0 then x != 0 else false) then (1:Int) else bif (bif hv s.H k != 0 then x == 0 else false) then -1 else 0)=0
        rw [show (bif hv s.H k == 0 then x != 0 else false)=false from hq,show (bif hv s.H k != 0 then x == 0 else false)=false from hr]; rfl
       exact ⟨⟨left.eraseIdx pos,sz⟩,⟨⟨rfl,rfl,rfl,rf,rf,rf,rf,rf,rf,rfl,tv⟩,⟨⟨rf,rf,rf,rf,rf,rf,rfl,rfl,rfl,rfl,rfl,tv⟩,⟨rfl,rfl⟩,⟨rfl,rfl⟩,⟨rfl,rfl⟩,⟨rfl,rfl⟩,⟨rfl,rfl⟩,⟨rf,rf,rf,rf,rf,rf,rf,tv⟩,tv,⟨rfl,rfl,rfl,cQ _ _,.inl rfl,tv⟩,tv⟩,rfl,rfl⟩,⟨by simp only; omega,by simp only; omega,by simp only; omega,by simp only; omega⟩,by simp only; omega⟩
  ·refine ⟨fun _=>⟨fun _=>⟨by omega,by omega⟩,?_⟩,fun hb=>by cases hb⟩
   obtain ⟨z0,DA⟩:∃z0:Int,(s.H.length:Int)+(s.bS.length:Int) - (lv:Int)+1=z0:=⟨_,rfl⟩
   have VC:K4 s S st=z0:=by unfold K4; rw [GN,oz]; exact DA
   have MY:-1000≤z0∧z0≤1000000:=by omega
   rw [VC] at rh
   refine ⟨Vz,WW s st A it n c true lv,fun z=>z.sz+iH s.H z.left=z0+iH s.H A∧z0 - ((A.length:Int) - (z.left.length:Int))≤z.sz∧z.sz≤z0+((A.length:Int) - (z.left.length:Int))∧z.left.length≤A.length,fun z=>z.left.length,⟨A,z0⟩,fun _=>rfl,?_,?_,?_⟩
   ·exact ⟨⟨rfl,rfl,rfl,rf,rf,rf,rf,rf,aB DA,rfl,tv⟩,⟨⟨rf,rf,rf,rf,rf,rf,rfl,rfl,rfl,rfl,rfl,tv⟩,⟨rfl,rfl⟩,⟨rfl,rfl⟩,⟨rfl,rfl⟩,⟨rfl,rfl⟩,⟨rfl,rfl⟩,⟨rf,rf,rf,rf,rf,rf,rf,tv⟩,tv,⟨rfl,rfl,rfl,rfl,.inl rfl,tv⟩,tv⟩,rfl,rfl⟩
   ·exact ⟨rfl,by simp only; omega,by simp only; omega,Nat.le_refl _⟩
   ·rintro ⟨left,sz⟩ ⟨h1,h2,h3,h4⟩
    simp only at h1 h2 h3 h4
    refine ⟨tv,fun h5=>⟨(fun h6=>by cases h6),fun _=>?_⟩,fun pos cc gU=>⟨fun _=>?_,fun h6=>by cases h6⟩⟩
    ·have hz:left=[]:=by simpa using h5
     subst hz
     have VD:sz=z0+iH s.H A:=by have:iH s.H []=0:=rfl; omega
     refine ⟨fun hq=>?_,fun hq=>?_⟩
     ·have hq:s.aD<sz:=of_decide_eq_true hq
      rw [if_pos (by omega)] at rh
      rw [rh]
      exact ⟨_,_,⟨rfl,rfl⟩,by kernel_rfl,⟨rf,tv⟩,⟨rf,rf,rf,rf,rf,rf,rfl,rfl,rfl,rfl,rfl,tv⟩,⟨rfl,rfl⟩,⟨rfl,rfl⟩,⟨rfl,rfl⟩,⟨rfl,rfl⟩,⟨rfl,rfl⟩,tv⟩
     have hq:¬ s.aD<sz:=of_decide_eq_false hq
     rw [if_neg (by omega)] at rh
     rw [rh]
     refine ⟨VA,WX s st A it n c true lv,fun z=>(z.done++z.left).Perm A∧z.f=fG s z.done,fun z=>z.left.length,⟨A,[],false⟩,fun z=>by obtain ⟨z1,z2,z3⟩:=z; cases z3 <;> rfl,?_,?_,?_⟩
     ·exact ⟨⟨rfl,rfl,rf,rf,rf,rf,rf,rfl,tv⟩,⟨⟨rf,rf,rf,rf,rf,rf,rfl,rfl,rfl,rfl,rfl,tv⟩,⟨rfl,rfl⟩,⟨rfl,rfl⟩,⟨rfl,rfl⟩,⟨rfl,rfl⟩,⟨rfl,rfl⟩,⟨rf,rf,rf,rf,rf,rf,rf,tv⟩,tv,⟨rfl,rfl,rfl,rfl,.inl rfl,tv⟩,tv⟩,rfl,rfl⟩
     ·exact ⟨List.Perm.refl _,rfl⟩
     ·rintro ⟨left,done,f⟩ ⟨g1,g2⟩
      simp only at g1 g2
      refine ⟨tv,fun h5=>⟨(fun h6=>by cases h6),fun _=>?_⟩,fun pos cc gU=>⟨fun _=>?_,fun h6=>by cases h6⟩⟩
      ·have hz:left=[]:=by simpa using h5
       subst hz
       have k1:(aI s done).bS=s.bS:=jL s done
       have k2:(aI s done).sl=s.sl:=nA s done
       have k3:s.bS.length=S.length:=by rw [h.bS,List.length_map]
       have k4:lv≤S.length:=by rw [←oz]; unfold dx; exact (List.takeWhile_sublist _).length_le
       have k5:f=fG s A:=by rw [g2]; unfold fG; exact CC (by simpa using g1) _
       have k6:done.Perm A:=by simpa using g1
       have k8:=lU s done
       have k9:done.length≤100000:=by rw [k6.length_eq]; exact WY
       generalize fb:aI s done=s1 at *
       have SV:dq s S 0=s1.sl:=by rw [k2]; exact yJ h
       cases f
       ·refine .inr (.inl ⟨fun _=>⟨by simp,by simp,by simp only [k1,List.length_map,Option.getD_some]; omega⟩,?_⟩)
        refine ⟨SQ,Ua s s1 S st it n c true lv false,fun z=>z.j≤lv∧z.h=decide (0<z.j),fun z=>lv - z.j,⟨0,false⟩,fun z=>by obtain ⟨z1,z2⟩:=z; cases z2 <;> rfl,?_,?_,?_⟩
        ·exact ⟨⟨rfl,rfl,rf,rf,rf,rf,rf,rfl,rf,rf,tv⟩,⟨⟨rf,rf,rf,rf,rf,rf,rfl,rfl,rfl,rfl,rfl,tv⟩,⟨rfl,rfl⟩,⟨rfl,rfl⟩,⟨rfl,rfl⟩,⟨rfl,by rw [SV]⟩,⟨rfl,rfl⟩,⟨rf,rf,rf,rf,rf,rf,rf,tv⟩,tv⟩,rfl,rfl⟩
        ·exact ⟨Nat.zero_le _,rfl⟩
        ·rintro ⟨j,hh⟩ ⟨q1,q2⟩
         simp only at q1 q2
         refine ⟨fun aJ=>?_,fun dw=>?_⟩
         ·have aJ:j<lv:=by have:=of_decide_eq_true aJ; simp only [Int.ofNat_lt] at this; exact this
          obtain ⟨⟨i4,x0⟩,kl⟩:∃q,S[j]?=some q:=⟨_,List.getElem?_eq_getElem (by omega)⟩
          have QB:i4<4:=h.it _ (List.mem_of_getElem? kl)
          have ou:(s1.bS.map I)[0+((j:Int)).toNat]?=some (I (i4:Int)):=by rw [k1,h.bS,List.map_map,List.getElem?_map,Nat.zero_add,Int.toNat_natCast,kl]; rfl
          obtain ⟨e1,e2⟩:=oa h kl
          have gD:((dq s S j).map mE)[((i4:Int)).toNat]?=some (.ay 5 (bU x0::(bC (S.drop (j+1)) i4).map bU)):=by rw [List.getElem?_map,Int.toNat_natCast,e1]; rfl
          refine ⟨fun _=>⟨by simp only; omega,by simp only; omega⟩,I (i4:Int),fun _=>ou,?_⟩
          have eo:(0:Int)≤(i4:Int)∧(i4:Int)<(((dq s S j).map mE).length:Int):=⟨by omega,by rw [List.length_map,cl]; omega⟩
          have b4:DV.ay 1 ((((dq s S j).map mE).set ((i4:Int)).toNat .any).set ((i4:Int)).toNat (.ay 5 ((bC (S.drop (j+1)) i4).map bU)))=.ay 1 ((dq s S (j+1)).map mE):=by
           rw [List.set_set,Int.toNat_natCast,e2,List.map_set]; rfl
          have wz:DV.ay 5 (List.drop 1 (List.take ((((bU x0::(bC (S.drop (j+1)) i4).map bU).length:Nat):Int)).toNat (bU x0::(bC (S.drop (j+1)) i4).map bU)))=DV.ay 5 ((bC (S.drop (j+1)) i4).map bU):=by
           rw [Int.toNat_natCast,List.take_length]; rfl
          cases hh
          ·refine ⟨fun _=>eo,.ay 5 (bU x0::(bC (S.drop (j+1)) i4).map bU),fun _=>gD,?_⟩
           refine .inr (.inr ⟨.ay 5 (bU x0::(bC (S.drop (j+1)) i4).map bU),fun _=>gD,⟨by simp,by simp; omega,by simp⟩,?_⟩)
           refine ⟨.ay 5 (bU x0::(bC (S.drop (j+1)) i4).map bU),gD,?_⟩
           refine ⟨fun _=>by rw [List.length_set]; exact eo,[.ay 5 ((bC (S.drop (j+1)) i4).map bU)],⟨wz,tv⟩,.any,List.getElem?_set_self (by rw [List.length_map,cl]; omega),?_⟩
           refine ⟨by kernel_rfl,fun _=>⟨by simp only; omega,by simp only; omega⟩,⟨j+1,true⟩,⟨⟨rfl,rfl,rf,rf,rf,rf,rf,rfl,rf,aB (by simp),tv⟩,⟨⟨rf,rf,rf,rf,rf,rf,rfl,rfl,rfl,rfl,rfl,tv⟩,⟨rfl,rfl⟩,⟨rfl,rfl⟩,⟨rfl,rfl⟩,⟨rfl,b4⟩,⟨rfl,rfl⟩,⟨rf,rf,rf,rf,rf,rf,rf,tv⟩,tv⟩,rfl,rfl⟩,⟨by simp only; omega,by simp⟩,by simp only; omega⟩
          ·refine ⟨fun _=>eo,.ay 5 (bU x0::(bC (S.drop (j+1)) i4).map bU),fun _=>gD,?_⟩
           refine .inr (.inr ⟨.ay 5 (bU x0::(bC (S.drop (j+1)) i4).map bU),fun _=>gD,⟨by simp,by simp; omega,by simp⟩,?_⟩)
           refine ⟨.ay 5 (bU x0::(bC (S.drop (j+1)) i4).map bU),gD,?_⟩
           refine ⟨fun _=>by rw [List.length_set]; exact eo,[.ay 5 ((bC (S.drop (j+1)) i4).map bU)],⟨wz,tv⟩,.any,List.getElem?_set_self (by rw [List.length_map,cl]; omega),?_⟩
           refine ⟨by kernel_rfl,fun _=>⟨by simp only; omega,by simp only; omega⟩,⟨j+1,true⟩,⟨⟨rfl,rfl,rf,rf,rf,rf,rf,rfl,rf,aB (by simp),tv⟩,⟨⟨rf,rf,rf,rf,rf,rf,rfl,rfl,rfl,rfl,rfl,tv⟩,⟨rfl,rfl⟩,⟨rfl,rfl⟩,⟨rfl,rfl⟩,⟨rfl,b4⟩,⟨rfl,rfl⟩,⟨rf,rf,rf,rf,rf,rf,rf,tv⟩,tv⟩,rfl,rfl⟩,⟨by simp only; omega,by simp⟩,by simp only; omega⟩
         ·have dw:j=lv:=by have:=of_decide_eq_false dw; simp only [Int.ofNat_lt] at this; omega
          subst dw
          have uU:DV.ay 1 (List.drop ((j:Int)).toNat (List.take (((s1.bS.map I).length:Nat):Int).toNat (s1.bS.map I)))=vK.iM (s1.bS.drop j):=by
           rw [Int.toNat_natCast,Int.toNat_natCast,List.take_length,←List.map_drop]; rfl
          refine .inl ⟨⟨by simp,by simp only [Option.getD_some,Option.getD_none,List.length_map,k1,k3]; omega,by simp⟩,fun _=>⟨by simp only; omega,by simp only; omega⟩,?_⟩
          refine ⟨fun _=>?_,fun h9=>by cases h9⟩
          have k7:dq s1 S j=dq s S j:=by unfold dq; rw [k2]
          obtain ⟨t1,t2,t3,t4,t5,t6⟩:=OK A it n c hA rfl
          obtain ⟨i5,rfl⟩:∃i5:Nat,it=(i5:Int):=⟨it.toNat,by omega⟩
          have t7:=ir s S j i5 (by omega)
          have t8:=SU j i5
          have t9:(bC (S.drop j) i5).length≤1000:=by
           unfold bC; rw [List.length_map]
           refine Nat.le_trans (List.length_filter_le ..) ?_
           rw [List.length_drop]; have:=h.len; omega
          have CD:bj Tryz.prog 54 [.ptr 0 0,.dv (I i5),.agg [.dv (I st.tick),.dv (I n),.dv (I c),.dv (I 0),.dv (I 0)]] 6 (vK false (dg s1 S j)) 0 [] (xb false true true (qQ (dg s1 S j) i5 (bC (S.drop j) i5) st.tick n c)):=by
           cases K6:(s.sl.getD i5 (true,[])).1 with
           | true =>
            have SW:bC (S.drop j) i5=[]:=lV (by have h1:=h.KT; have hg:=List.getElem?_eq_getElem (l:=s.sl) (i:=i5) (by omega); rw [List.getD_eq_getElem?_getD,hg] at K6; generalize s.sl[i5]=q at hg K6; obtain ⟨f7,l7⟩:=q; rw [←h.sl _ _ _ hg]; exact h.sf _ _ _ hg K6) j
            rw [SW]
            exact wm _ i5 (by show (dq s1 S j)[i5]?=_; rw [k7,t7,K6,SW]) _ _ _ ⟨by simp only [dg]; omega,by simp only [dg]; omega⟩ (by simp only [dg,List.length_drop,k1]; omega)
           | false =>
            exact wo _ i5 _ (by show (dq s1 S j)[i5]?=_; rw [k7,t7,K6]) _ _ _ ⟨by simp only [dg]; omega,by simp only [dg]; omega⟩ (by simp only [dg,List.length_drop,k1]; omega) t9 ⟨t8.1,t8.2.1⟩ t8.2.2 ⟨by omega,by omega⟩ ⟨by omega,by omega⟩
          have sk:lS s S st (.ok A) [.dv (I 0)] (xb false true true { qQ (dg s1 S j) i5 (bC (S.drop j) i5) st.tick n c with last:=st.tick }):=by
           refine ⟨done,k6,rfl,?_⟩
           rw [fb,←k5,GN,oz]
           have h0:cN s S st s1={ qQ (dg s1 S j) i5 (bC (S.drop j) i5) st.tick n c with last:=st.tick }:=by unfold cN; rw [GN,oz]; rfl
           rw [h0]; simp
          cases hh
          ·refine .inr ⟨[0,1,2,3,4,5],[.ptr 0 0,.dv (I i5),.agg [.dv (I st.tick),.dv (I n),.dv (I c),.dv (I 0),.dv (I 0)]],vK false (dg s1 S j),0,_,_,CD,by kernel_rfl,by kernel_rfl,⟨rfl,rf,⟨rf,rf,rf,rf,rf,tv⟩,tv⟩,⟨⟨rf,rf,rf,rf,rf,rf,rfl,rfl,rfl,rfl,rfl,tv⟩,⟨rfl,rfl⟩,⟨rfl,rfl⟩,⟨rfl,rfl⟩,⟨rfl,by rw [←k7]; rfl⟩,⟨rfl,uU⟩,tv⟩,?_⟩
           exact ⟨_,_,sk,by kernel_rfl,⟨rf,tv⟩,⟨rf,rf,rf,rf,rf,rf,rfl,rfl,rfl,rfl,rfl,tv⟩,⟨rfl,rfl⟩,⟨rfl,rfl⟩,⟨rfl,rfl⟩,⟨rfl,rfl⟩,⟨rfl,rfl⟩,tv⟩
          ·refine .inr ⟨[0,1,2,3,4,5],[.ptr 0 0,.dv (I i5),.agg [.dv (I st.tick),.dv (I n),.dv (I c),.dv (I 0),.dv (I 0)]],vK false (dg s1 S j),0,_,_,CD,by kernel_rfl,by kernel_rfl,⟨rfl,rf,⟨rf,rf,rf,rf,rf,tv⟩,tv⟩,⟨⟨rf,rf,rf,rf,rf,rf,rfl,rfl,rfl,rfl,rfl,tv⟩,⟨rfl,rfl⟩,⟨rfl,rfl⟩,⟨rfl,rfl⟩,⟨rfl,by rw [←k7]; rfl⟩,⟨rfl,uU⟩,tv⟩,?_⟩
           exact ⟨_,_,sk,by kernel_rfl,⟨rf,tv⟩,⟨rf,rf,rf,rf,rf,rf,rfl,rfl,rfl,rfl,rfl,tv⟩,⟨rfl,rfl⟩,⟨rfl,rfl⟩,⟨rfl,rfl⟩,⟨rfl,rfl⟩,⟨rfl,rfl⟩,tv⟩
       ·refine .inr (.inl ⟨fun _=>⟨by simp,by simp,by simp only [k1,List.length_map,Option.getD_some]; omega⟩,?_⟩)
        refine ⟨SQ,Ua s s1 S st it n c true lv true,fun z=>z.j≤lv∧z.h=decide (0<z.j),fun z=>lv - z.j,⟨0,false⟩,fun z=>by obtain ⟨z1,z2⟩:=z; cases z2 <;> rfl,?_,?_,?_⟩
        ·exact ⟨⟨rfl,rfl,rf,rf,rf,rf,rf,rfl,rf,rf,tv⟩,⟨⟨rf,rf,rf,rf,rf,rf,rfl,rfl,rfl,rfl,rfl,tv⟩,⟨rfl,rfl⟩,⟨rfl,rfl⟩,⟨rfl,rfl⟩,⟨rfl,by rw [SV]⟩,⟨rfl,rfl⟩,⟨rf,rf,rf,rf,rf,rf,rf,tv⟩,tv⟩,rfl,rfl⟩
        ·exact ⟨Nat.zero_le _,rfl⟩
        ·rintro ⟨j,hh⟩ ⟨q1,q2⟩
         simp only at q1 q2
         refine ⟨fun aJ=>?_,fun dw=>?_⟩
         ·have aJ:j<lv:=by have:=of_decide_eq_true aJ; simp only [Int.ofNat_lt] at this; exact this
          obtain ⟨⟨i4,x0⟩,kl⟩:∃q,S[j]?=some q:=⟨_,List.getElem?_eq_getElem (by omega)⟩
          have QB:i4<4:=h.it _ (List.mem_of_getElem? kl)
          have ou:(s1.bS.map I)[0+((j:Int)).toNat]?=some (I (i4:Int)):=by rw [k1,h.bS,List.map_map,List.getElem?_map,Nat.zero_add,Int.toNat_natCast,kl]; rfl
          obtain ⟨e1,e2⟩:=oa h kl
          have gD:((dq s S j).map mE)[((i4:Int)).toNat]?=some (.ay 5 (bU x0::(bC (S.drop (j+1)) i4).map bU)):=by rw [List.getElem?_map,Int.toNat_natCast,e1]; rfl
          refine ⟨fun _=>⟨by simp only; omega,by simp only; omega⟩,I (i4:Int),fun _=>ou,?_⟩
          have eo:(0:Int)≤(i4:Int)∧(i4:Int)<(((dq s S j).map mE).length:Int):=⟨by omega,by rw [List.length_map,cl]; omega⟩
          have b4:DV.ay 1 ((((dq s S j).map mE).set ((i4:Int)).toNat .any).set ((i4:Int)).toNat (.ay 5 ((bC (S.drop (j+1)) i4).map bU)))=.ay 1 ((dq s S (j+1)).map mE):=by
           rw [List.set_set,Int.toNat_natCast,e2,List.map_set]; rfl
          have wz:DV.ay 5 (List.drop 1 (List.take ((((bU x0::(bC (S.drop (j+1)) i4).map bU).length:Nat):Int)).toNat (bU x0::(bC (S.drop (j+1)) i4).map bU)))=DV.ay 5 ((bC (S.drop (j+1)) i4).map bU):=by
           rw [Int.toNat_natCast,List.take_length]; rfl
          cases hh
          ·refine ⟨fun _=>eo,.ay 5 (bU x0::(bC (S.drop (j+1)) i4).map bU),fun _=>gD,?_⟩
           refine .inr (.inr ⟨.ay 5 (bU x0::(bC (S.drop (j+1)) i4).map bU),fun _=>gD,⟨by simp,by simp; omega,by simp⟩,?_⟩)
           refine ⟨.ay 5 (bU x0::(bC (S.drop (j+1)) i4).map bU),gD,?_⟩
           refine ⟨fun _=>by rw [List.length_set]; exact eo,[.ay 5 ((bC (S.drop (j+1)) i4).map bU)],⟨wz,tv⟩,.any,List.getElem?_set_self (by rw [List.length_map,cl]; omega),?_⟩
           refine ⟨by kernel_rfl,fun _=>⟨by simp only; omega,by simp only; omega⟩,⟨j+1,true⟩,⟨⟨rfl,rfl,rf,rf,rf,rf,rf,rfl,rf,aB (by simp),tv⟩,⟨⟨rf,rf,rf,rf,rf,rf,rfl,rfl,rfl,rfl,rfl,tv⟩,⟨rfl,rfl⟩,⟨rfl,rfl⟩,⟨rfl,rfl⟩,⟨rfl,b4⟩,⟨rfl,rfl⟩,⟨rf,rf,rf,rf,rf,rf,rf,tv⟩,tv⟩,rfl,rfl⟩,⟨by simp only; omega,by simp⟩,by simp only; omega⟩
          ·refine ⟨fun _=>eo,.ay 5 (bU x0::(bC (S.drop (j+1)) i4).map bU),fun _=>gD,?_⟩
           refine .inr (.inr ⟨.ay 5 (bU x0::(bC (S.drop (j+1)) i4).map bU),fun _=>gD,⟨by simp,by simp; omega,by simp⟩,?_⟩)
           refine ⟨.ay 5 (bU x0::(bC (S.drop (j+1)) i4).map bU),gD,?_⟩
           refine ⟨fun _=>by rw [List.length_set]; exact eo,[.ay 5 ((bC (S.drop (j+1)) i4).map bU)],⟨wz,tv⟩,.any,List.getElem?_set_self (by rw [List.length_map,cl]; omega),?_⟩
           refine ⟨by kernel_rfl,fun _=>⟨by simp only; omega,by simp only; omega⟩,⟨j+1,true⟩,⟨⟨rfl,rfl,rf,rf,rf,rf,rf,rfl,rf,aB (by simp),tv⟩,⟨⟨rf,rf,rf,rf,rf,rf,rfl,rfl,rfl,rfl,rfl,tv⟩,⟨rfl,rfl⟩,⟨rfl,rfl⟩,⟨rfl,rfl⟩,⟨rfl,b4⟩,⟨rfl,rfl⟩,⟨rf,rf,rf,rf,rf,rf,rf,tv⟩,tv⟩,rfl,rfl⟩,⟨by simp only; omega,by simp⟩,by simp only; omega⟩
         ·have dw:j=lv:=by have:=of_decide_eq_false dw; simp only [Int.ofNat_lt] at this; omega
          subst dw
          have uU:DV.ay 1 (List.drop ((j:Int)).toNat (List.take (((s1.bS.map I).length:Nat):Int).toNat (s1.bS.map I)))=vK.iM (s1.bS.drop j):=by
           rw [Int.toNat_natCast,Int.toNat_natCast,List.take_length,←List.map_drop]; rfl
          refine .inl ⟨⟨by simp,by simp only [Option.getD_some,Option.getD_none,List.length_map,k1,k3]; omega,by simp⟩,fun _=>⟨by simp only; omega,by simp only; omega⟩,?_⟩
          refine ⟨fun _=>?_,fun h9=>by cases h9⟩
          have k7:dq s1 S j=dq s S j:=by unfold dq; rw [k2]
          obtain ⟨t1,t2,t3,t4,t5,t6⟩:=OK A it n c hA rfl
          obtain ⟨i5,rfl⟩:∃i5:Nat,it=(i5:Int):=⟨it.toNat,by omega⟩
          have t7:=ir s S j i5 (by omega)
          have t8:=SU j i5
          have t9:(bC (S.drop j) i5).length≤1000:=by
           unfold bC; rw [List.length_map]
           refine Nat.le_trans (List.length_filter_le ..) ?_
           rw [List.length_drop]; have:=h.len; omega
          have CD:bj Tryz.prog 54 [.ptr 0 0,.dv (I i5),.agg [.dv (I st.tick),.dv (I n),.dv (I c),.dv (I 0),.dv (I 0)]] 6 (vK false (dg s1 S j)) 0 [] (xb false true true (qQ (dg s1 S j) i5 (bC (S.drop j) i5) st.tick n c)):=by
           cases K6:(s.sl.getD i5 (true,[])).1 with
           | true =>
            have SW:bC (S.drop j) i5=[]:=lV (by have h1:=h.KT; have hg:=List.getElem?_eq_getElem (l:=s.sl) (i:=i5) (by omega); rw [List.getD_eq_getElem?_getD,hg] at K6; generalize s.sl[i5]=q at hg K6; obtain ⟨f7,l7⟩:=q; rw [←h.sl _ _ _ hg]; exact h.sf _ _ _ hg K6) j
            rw [SW]
            exact wm _ i5 (by show (dq s1 S j)[i5]?=_; rw [k7,t7,K6,SW]) _ _ _ ⟨by simp only [dg]; omega,by simp only [dg]; omega⟩ (by simp only [dg,List.length_drop,k1]; omega)
           | false =>
            exact wo _ i5 _ (by show (dq s1 S j)[i5]?=_; rw [k7,t7,K6]) _ _ _ ⟨by simp only [dg]; omega,by simp only [dg]; omega⟩ (by simp only [dg,List.length_drop,k1]; omega) t9 ⟨t8.1,t8.2.1⟩ t8.2.2 ⟨by omega,by omega⟩ ⟨by omega,by omega⟩
          have sk:lS s S st (.ok A) [.dv (I 0)] (xb true true true { qQ (dg s1 S j) i5 (bC (S.drop j) i5) st.tick n c with last:=st.tick }):=by
           refine ⟨done,k6,rfl,?_⟩
           rw [fb,←k5,GN,oz]
           have h0:cN s S st s1={ qQ (dg s1 S j) i5 (bC (S.drop j) i5) st.tick n c with last:=st.tick }:=by unfold cN; rw [GN,oz]; rfl
           rw [h0]; simp
          cases hh
          ·refine .inr ⟨[0,1,2,3,4,5],[.ptr 0 0,.dv (I i5),.agg [.dv (I st.tick),.dv (I n),.dv (I c),.dv (I 0),.dv (I 0)]],vK false (dg s1 S j),0,_,_,CD,by kernel_rfl,by kernel_rfl,⟨rfl,rf,⟨rf,rf,rf,rf,rf,tv⟩,tv⟩,⟨⟨rf,rf,rf,rf,rf,rf,rfl,rfl,rfl,rfl,rfl,tv⟩,⟨rfl,rfl⟩,⟨rfl,rfl⟩,⟨rfl,rfl⟩,⟨rfl,by rw [←k7]; rfl⟩,⟨rfl,uU⟩,tv⟩,?_⟩
           exact ⟨_,_,sk,by kernel_rfl,⟨rf,tv⟩,⟨rf,rf,rf,rf,rf,rf,rfl,rfl,rfl,rfl,rfl,tv⟩,⟨rfl,rfl⟩,⟨rfl,rfl⟩,⟨rfl,rfl⟩,⟨rfl,rfl⟩,⟨rfl,rfl⟩,tv⟩
          ·refine .inr ⟨[0,1,2,3,4,5],[.ptr 0 0,.dv (I i5),.agg [.dv (I st.tick),.dv (I n),.dv (I c),.dv (I 0),.dv (I 0)]],vK false (dg s1 S j),0,_,_,CD,by kernel_rfl,by kernel_rfl,⟨rfl,rf,⟨rf,rf,rf,rf,rf,tv⟩,tv⟩,⟨⟨rf,rf,rf,rf,rf,rf,rfl,rfl,rfl,rfl,rfl,tv⟩,⟨rfl,rfl⟩,⟨rfl,rfl⟩,⟨rfl,rfl⟩,⟨rfl,by rw [←k7]; rfl⟩,⟨rfl,uU⟩,tv⟩,?_⟩
           exact ⟨_,_,sk,by kernel_rfl,⟨rf,tv⟩,⟨rf,rf,rf,rf,rf,rf,rfl,rfl,rfl,rfl,rfl,tv⟩,⟨rfl,rfl⟩,⟨rfl,rfl⟩,⟨rfl,rfl⟩,⟨rfl,rfl⟩,⟨rfl,rfl⟩,tv⟩
      ·simp only at gU
       rw [List.getElem?_map] at gU
       obtain ⟨⟨k,x⟩,hk,rfl⟩:∃p,left[pos]?=some p∧cc=qO p:=by
        cases hq:left[pos]? with
        | none=>rw [hq] at gU; cases gU
        | some p=>rw [hq] at gU; exact ⟨p,rfl,by simpa using gU.symm⟩
       refine ⟨lT x,?_⟩
       have yb:(done++(k,x)::left.eraseIdx pos).Perm A:=((pC hk).append_left done).symm.trans g1
       obtain ⟨ii,bY,VE⟩:=iV A hA done k x _ yb
       have cM:=Cr (aI s done) k ii x bY
       have Ck:cG (aI s done) k ii x=aI s (done++[(k,x)]):=by
        unfold aI; rw [List.foldl_append]; show cG _ k ii x=cG _ k k.2.toNat x
        rw [show k.2.toNat=ii by have:=bY.it; omega]
       rw [Ck,VE] at cM
       have sH:fG s (done++[(k,x)])=(f || cu s k x):=by unfold fG; rw [List.any_append,g2]; simp [fG]
       cases f
       ·cases H6:cu s k x
        ·rw [H6] at cM sH
         refine .inr ⟨[0,1,2,3,4,5],[.ptr 0 0,.agg [.dv (I k.1),.dv (I k.2)],.dv (I x)],vK false (aI s done),0,_,_,cM,by kernel_rfl,by kernel_rfl,⟨rfl,⟨rf,rf,tv⟩,rf,tv⟩,⟨⟨rf,rf,rf,rf,rf,rf,rfl,rfl,rfl,rfl,rfl,tv⟩,⟨rfl,rfl⟩,⟨rfl,rfl⟩,⟨rfl,rfl⟩,⟨rfl,rfl⟩,⟨rfl,rfl⟩,tv⟩,?_⟩
         exact ⟨⟨left.eraseIdx pos,done++[(k,x)],false⟩,⟨⟨rfl,rfl,rf,rf,rf,rf,rf,rfl,tv⟩,⟨⟨rf,rf,rf,rf,rf,rf,rfl,rfl,rfl,rfl,rfl,tv⟩,⟨rfl,rfl⟩,⟨rfl,rfl⟩,⟨rfl,rfl⟩,⟨rfl,rfl⟩,⟨rfl,rfl⟩,⟨rf,rf,rf,rf,rf,rf,rf,tv⟩,tv,⟨rfl,rfl,rfl,cQ _ _,.inl rfl,tv⟩,tv⟩,rfl,rfl⟩,⟨by simp only [List.append_assoc]; exact yb,sH.symm⟩,by simp only; have:=eG hk; omega⟩
        ·rw [H6] at cM sH
         refine .inr ⟨[0,1,2,3,4,5],[.ptr 0 0,.agg [.dv (I k.1),.dv (I k.2)],.dv (I x)],vK false (aI s done),0,_,_,cM,by kernel_rfl,by kernel_rfl,⟨rfl,⟨rf,rf,tv⟩,rf,tv⟩,⟨⟨rf,rf,rf,rf,rf,rf,rfl,rfl,rfl,rfl,rfl,tv⟩,⟨rfl,rfl⟩,⟨rfl,rfl⟩,⟨rfl,rfl⟩,⟨rfl,rfl⟩,⟨rfl,rfl⟩,tv⟩,?_⟩
         exact ⟨⟨left.eraseIdx pos,done++[(k,x)],true⟩,⟨⟨rfl,rfl,rf,rf,rf,rf,rf,rfl,tv⟩,⟨⟨rf,rf,rf,rf,rf,rf,rfl,rfl,rfl,rfl,rfl,tv⟩,⟨rfl,rfl⟩,⟨rfl,rfl⟩,⟨rfl,rfl⟩,⟨rfl,rfl⟩,⟨rfl,rfl⟩,⟨rf,rf,rf,rf,rf,rf,rf,tv⟩,tv,⟨rfl,rfl,rfl,cQ _ _,.inl rfl,tv⟩,tv⟩,rfl,rfl⟩,⟨by simp only [List.append_assoc]; exact yb,sH.symm⟩,by simp only; have:=eG hk; omega⟩
       ·cases H6:cu s k x
        ·rw [H6] at cM sH
         refine .inr ⟨[0,1,2,3,4,5],[.ptr 0 0,.agg [.dv (I k.1),.dv (I k.2)],.dv (I x)],vK false (aI s done),0,_,_,cM,by kernel_rfl,by kernel_rfl,⟨rfl,⟨rf,rf,tv⟩,rf,tv⟩,⟨⟨rf,rf,rf,rf,rf,rf,rfl,rfl,rfl,rfl,rfl,tv⟩,⟨rfl,rfl⟩,⟨rfl,rfl⟩,⟨rfl,rfl⟩,⟨rfl,rfl⟩,⟨rfl,rfl⟩,tv⟩,?_⟩
         exact ⟨⟨left.eraseIdx pos,done++[(k,x)],true⟩,⟨⟨rfl,rfl,rf,rf,rf,rf,rf,rfl,tv⟩,⟨⟨rf,rf,rf,rf,rf,rf,rfl,rfl,rfl,rfl,rfl,tv⟩,⟨rfl,rfl⟩,⟨rfl,rfl⟩,⟨rfl,rfl⟩,⟨rfl,rfl⟩,⟨rfl,rfl⟩,⟨rf,rf,rf,rf,rf,rf,rf,tv⟩,tv,⟨rfl,rfl,rfl,cQ _ _,.inl rfl,tv⟩,tv⟩,rfl,rfl⟩,⟨by simp only [List.append_assoc]; exact yb,sH.symm⟩,by simp only; have:=eG hk; omega⟩
        ·rw [H6] at cM sH
         refine .inr ⟨[0,1,2,3,4,5],[.ptr 0 0,.agg [.dv (I k.1),.dv (I k.2)],.dv (I x)],vK false (aI s done),0,_,_,cM,by kernel_rfl,by kernel_rfl,⟨rfl,⟨rf,rf,tv⟩,rf,tv⟩,⟨⟨rf,rf,rf,rf,rf,rf,rfl,rfl,rfl,rfl,rfl,tv⟩,⟨rfl,rfl⟩,⟨rfl,rfl⟩,⟨rfl,rfl⟩,⟨rfl,rfl⟩,⟨rfl,rfl⟩,tv⟩,?_⟩
         exact ⟨⟨left.eraseIdx pos,done++[(k,x)],true⟩,⟨⟨rfl,rfl,rf,rf,rf,rf,rf,rfl,tv⟩,⟨⟨rf,rf,rf,rf,rf,rf,rfl,rfl,rfl,rfl,rfl,tv⟩,⟨rfl,rfl⟩,⟨rfl,rfl⟩,⟨rfl,rfl⟩,⟨rfl,rfl⟩,⟨rfl,rfl⟩,⟨rf,rf,rf,rf,rf,rf,rf,tv⟩,tv,⟨rfl,rfl,rfl,cQ _ _,.inl rfl,tv⟩,tv⟩,rfl,rfl⟩,⟨by simp only [List.append_assoc]; exact yb,sH.symm⟩,by simp only; have:=eG hk; omega⟩
    ·simp only at gU
     rw [List.getElem?_map] at gU
     obtain ⟨⟨k,x⟩,hk,rfl⟩:∃p,left[pos]?=some p∧cc=qO p:=by
      cases hq:left[pos]? with
      | none=>rw [hq] at gU; cases gU
      | some p=>rw [hq] at gU; exact ⟨p,rfl,by simpa using gU.symm⟩
     refine ⟨lT x,?_⟩
     refine ⟨gX,xa k,rfl,rfl,I (hv s.H k),(bp s.H k).isSome,fun _=>Cu s.H k,GK s.H k,rfl,?_⟩
     refine ⟨by kernel_rfl,?_⟩
     repeat first | refine ⟨id,?_⟩ | refine ⟨fun _ h=>cx h,?_⟩ | refine ⟨fun _ h=>ax h,?_⟩ | refine ⟨fun h=>⟨h,fun h2=>aP h h2⟩,?_⟩ | refine ⟨fun h=>⟨h,fun h2=>aC h h2⟩,?_⟩
     have DP:=pB s.H hk
     have hle:=eG hk
     refine ⟨fun hq=>?_,fun hq=>?_⟩
     ·have hd:CB s.H (k,x)=1:=by
       show (bif (bif hv s.H k == 0 then x != 0 else false) then (1:Int) else _)=1
       rw [show (bif hv s.H k == 0 then x != 0 else false)=true from hq]; rfl
      have h0:hv s.H k=0:=by
       cases hz:(hv s.H k == 0) with
       | true=>simpa using hz
       | false=>rw [hz] at hq; cases hq
      refine ⟨fun _=>⟨by simp only; omega,by simp only; omega⟩,?_⟩
      repeat first | refine ⟨id,?_⟩ | refine ⟨fun _ h=>cx h,?_⟩ | refine ⟨fun _ h=>ax h,?_⟩ | refine ⟨fun h=>⟨h,fun h2=>aP h h2⟩,?_⟩ | refine ⟨fun h=>⟨h,fun h2=>aC h h2⟩,?_⟩
      refine ⟨fun hr=>absurd hr (by rw [h0]; simp),fun _=>?_⟩
      exact ⟨⟨left.eraseIdx pos,sz+1⟩,⟨⟨rfl,rfl,rfl,rf,rf,rf,rf,rf,rf,rfl,tv⟩,⟨⟨rf,rf,rf,rf,rf,rf,rfl,rfl,rfl,rfl,rfl,tv⟩,⟨rfl,rfl⟩,⟨rfl,rfl⟩,⟨rfl,rfl⟩,⟨rfl,rfl⟩,⟨rfl,rfl⟩,⟨rf,rf,rf,rf,rf,rf,rf,tv⟩,tv,⟨rfl,rfl,rfl,cQ _ _,.inl rfl,tv⟩,tv⟩,rfl,rfl⟩,⟨by simp only; omega,by simp only; omega,by simp only; omega,by simp only; omega⟩,by simp only; omega⟩
     ·repeat first | refine ⟨id,?_⟩ | refine ⟨fun _ h=>cx h,?_⟩ | refine ⟨fun _ h=>ax h,?_⟩ | refine ⟨fun h=>⟨h,fun h2=>aP h h2⟩,?_⟩ | refine ⟨fun h=>⟨h,fun h2=>aC h h2⟩,?_⟩
      refine ⟨fun hr=>?_,fun hr=>?_⟩
      ·have hd:CB s.H (k,x)=-1:=by
        show (bif (bif hv s.H k == 0 then x != 0 else false) then (1:Int) else bif (bif hv s.H k != 0 then x == 0 else false) then -1 else 0)=-1
        rw [show (bif hv s.H k == 0 then x != 0 else false)=false from hq,show (bif hv s.H k != 0 then x == 0 else false)=true from hr]; rfl
       refine ⟨fun _=>⟨by simp only; omega,by simp only; omega⟩,?_⟩
       exact ⟨⟨left.eraseIdx pos,sz - 1⟩,⟨⟨rfl,rfl,rfl,rf,rf,rf,rf,rf,rf,rfl,tv⟩,⟨⟨rf,rf,rf,rf,rf,rf,rfl,rfl,rfl,rfl,rfl,tv⟩,⟨rfl,rfl⟩,⟨rfl,rfl⟩,⟨rfl,rfl⟩,⟨rfl,rfl⟩,⟨rfl,rfl⟩,⟨rf,rf,rf,rf,rf,rf,rf,tv⟩,tv,⟨rfl,rfl,rfl,cQ _ _,.inl rfl,tv⟩,tv⟩,rfl,rfl⟩,⟨by simp only; omega,by simp only; omega,by simp only; omega,by simp only; omega⟩,by simp only; omega⟩
      ·have hd:CB s.H (k,x)=0:=by
        show (bif (bif hv s.H k == 0 then x != 0 else false) then (1:Int) else bif (bif hv s.H k != 0 then x == 0 else false) then -1 else 0)=0
        rw [show (bif hv s.H k == 0 then x != 0 else false)=false from hq,show (bif hv s.H k != 0 then x == 0 else false)=false from hr]; rfl
       exact ⟨⟨left.eraseIdx pos,sz⟩,⟨⟨rfl,rfl,rfl,rf,rf,rf,rf,rf,rf,rfl,tv⟩,⟨⟨rf,rf,rf,rf,rf,rf,rfl,rfl,rfl,rfl,rfl,tv⟩,⟨rfl,rfl⟩,⟨rfl,rfl⟩,⟨rfl,rfl⟩,⟨rfl,rfl⟩,⟨rfl,rfl⟩,⟨rf,rf,rf,rf,rf,rf,rf,tv⟩,tv,⟨rfl,rfl,rfl,cQ _ _,.inl rfl,tv⟩,tv⟩,rfl,rfl⟩,⟨by simp only; omega,by simp only; omega,by simp only; omega,by simp only; omega⟩,by simp only; omega⟩
end Go.Proofs.YtpbdohkbiklflaaGreatDoor
