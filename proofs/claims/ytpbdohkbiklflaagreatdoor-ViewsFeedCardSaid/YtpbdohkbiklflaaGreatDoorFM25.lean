import Derived.Test.YtpbdohkbiklflaaGreatDoorFM23
set_option linter.unusedVariables false
set_option linter.unusedSimpArgs false
set_option linter.unusedSectionVars false
namespace Go.Proofs.YtpbdohkbiklflaaGreatDoor
open Go.TM
variable [de]
set_option maxRecDepth 100000
def aJ (s:Vs) (es:HM):Vs:=es.foldl (fun s e=>cG s e.1 e.1.2.toNat e.2) s
def CM (H:HM) (e:Ky × Int):Int:=bif bif decide (hv H e.1=0) then !(decide (e.2=0)) else false then 1 else bif bif !(decide (hv H e.1=0)) then decide (e.2=0) else false then -1 else 0
def iH (H:HM) (es:HM):Int:=(es.map (CM H)).foldr (·+·) 0
def fF (s:Vs) (es:HM):Bool:=es.any fun e=>cx s e.1 e.2
def dp (s:Vs) (S:SS) (j:Nat):List (Bool × List Sl):=(List.range 4).map fun i=>((s.sl.getD i (true,[])).1,cl (S.drop j) i)
def df (s:Vs) (S:SS) (lv:Nat):Vs:={ s with sl:=dp s S lv,bL:=s.bL.drop lv,work:=s.work+lv }
def No (s:Vs) (S:SS) (lv:Nat) (VE:Bool) (it:Nat) (tick n c:Int):Vs :=
 let s2:=df s S lv
 let s3:=bif VE then qS s2 it (cl (S.drop lv) it) tick n c else s2
 {s3 with last:=tick }
inductive Ui where
 | err (e:Int)
 | ok (A:HM)
def Lj (s:Vs) (S:SS) (st:St):Int:=(s.H.length:Int)+(s.bL.length:Int) - (du S (st.tick - s.ab):Int)+(bif (bQ s.coin st).2.2.2 then 1 else 0)
def eS (s:Vs) (S:SS) (st:St):Ui :=
 if (bif decide (st.tick<s.last) then true else decide (1099511627776<st.tick))=true then .err 1 else
 match ko s.H [] st.mv with
 | .err e=>.err e
 | .ok A=>if s.aC<Lj s S st+iH s.H A then .err 22 else .ok A
def cM (s:Vs) (S:SS) (st:St) (s1:Vs):Vs:=No s1 S (du S (st.tick - s.ab)) (bQ s.coin st).2.2.2 (bQ s.coin st).1.toNat st.tick (bQ s.coin st).2.1 (bQ s.coin st).2.2.1
def lN (s:Vs) (S:SS) (st:St):Ui→List AV→ah→Prop
 | .err e,rs,k=>rs=[.dv (I e)]∧k=vK false s
 | .ok A,rs,k=>∃done:HM,done.Perm A∧rs=[.dv (I 0)]∧k=xm (fF s A) (decide (0<du S (st.tick - s.ab)) || (bQ s.coin st).2.2.2) true (cM s S st (aJ s done))
def VF (st:St):ao:=.cells [.dv (I st.id),.dv (I st.kind),.dv (I st.GS),.dv (I st.tick),.dv (I st.Ng),.dv (I st.times),.dv (AD st.mv)]
theorem lO (x:Int):(I x).bE:=by
 intro d hd
 simp [DV.cells] at hd; subst hd; rfl
theorem cP {α β:Type} {f:α→β}:∀(l:List α) (i:Nat),(l.map f).eraseIdx i=(l.eraseIdx i).map f
 | [],_=>rfl
 | _::_,0=>rfl
 | x::l,i+1=>by simp only [List.map_cons,List.eraseIdx_cons_succ]; rw [cP l i]
theorem pG (H:HM) {e:Ky × Int}:∀{l:HM} {i:Nat},l[i]?=some e→iH H l=CM H e+iH H (l.eraseIdx i)
 | [],_,h=>by simp at h
 | x::l,0,h=>by simp at h; subst h; rfl
 | x::l,i+1,h=>by
  have:=pG H (l:=l) (i:=i) (by simpa using h)
  show CM H x+iH H l=CM H e+(CM H x+iH H (l.eraseIdx i))
  omega
theorem eE {α:Type} {l:List α} {i:Nat} {e:α} (h:l[i]?=some e):(l.eraseIdx i).length+1=l.length:=by
 have:=(List.getElem?_eq_some_iff.1 h).1
 rw [List.length_eraseIdx,if_pos this]; omega
structure VG where
 left:HM
 sz:Int
def W0 (s:Vs) (st:St) (A:HM) (it n c:Int) (b:Bool) (lv:Nat) (z:VG):bh:=⟨10,[(0,.ptr 0 0),(3,.ptr 6 0),(5,.own 8 0 0 []),(7,.dv (I it)),(8,.dv (I n)),(9,.dv (I c)),(10,.dv (B b)),(11,.dv (I lv)),(12,.dv (I z.sz)),(62,.ptr 9 0)],vK false s++[(6,VF st),(8,.held),(9,.jb 8 [] (.omap eh (A.map pT)) (z.left.map pT) none)]⟩
theorem Im (s:Vs) (k:Ky) (i:Nat) (x:Int):(cG s k i x).bL=s.bL:=by
 unfold cG; split <;> (try rfl) <;> (simp only; split <;> rfl)
theorem Np (s:Vs) (k:Ky) (i:Nat) (x:Int):(cG s k i x).sl=s.sl:=by
 unfold cG; split <;> (try rfl) <;> (simp only; split <;> rfl)
theorem jL (s:Vs) (es:HM):(aJ s es).bL=s.bL:=by
 unfold aJ
 induction es generalizing s with
 | nil=>rfl
 | cons e r ih=>rw [List.foldl_cons,ih,Im]
theorem ny (s:Vs) (es:HM):(aJ s es).sl=s.sl:=by
 unfold aJ
 induction es generalizing s with
 | nil=>rfl
 | cons e r ih=>rw [List.foldl_cons,ih,Np]
theorem oh (s:Vs) (k:Ky) (i:Nat) (x:Int):s.work≤(cG s k i x).work∧(cG s k i x).work≤s.work+1:=by
 unfold cG; split
 ·omega
 ·simp only; split <;> (simp only; omega)
theorem lP (s:Vs) (es:HM):s.work≤(aJ s es).work∧(aJ s es).work≤s.work+es.length:=by
 unfold aJ
 induction es generalizing s with
 | nil=>simp
 | cons e r ih =>
  rw [List.foldl_cons]
  have h1:=ih (cG s e.1 e.1.2.toNat e.2)
  have h2:=oh s e.1 e.1.2.toNat e.2
  simp only [List.length_cons]
  omega
theorem CN {α:Type} {l r:List α} (h:l.Perm r) (p:α→Bool):l.any p=r.any p:=by
 induction h with
 | nil=>rfl
 | cons x _ ih=>simp [ih]
 | swap x y l=>simp [Bool.or_left_comm]
 | trans _ _ YI YJ=>exact YI.trans YJ
theorem Lk {a b:List (Bool × List Sl)} (ha:a.length=4) (hb:b.length=4) (h:∀i,i<4→a[i]?=b[i]?):a=b:=by
 apply List.ext_getElem?
 intro i
 rcases Nat.lt_or_ge i 4 with h4 | h4
 ·exact h i h4
 ·rw [List.getElem?_eq_none (by omega),List.getElem?_eq_none (by omega)]
theorem cn (s:Vs) (S:SS) (j:Nat):(dp s S j).length=4:=by simp [dp]
theorem im (s:Vs) (S:SS) (j i:Nat) (hi:i<4):(dp s S j)[i]?=some ((s.sl.getD i (true,[])).1,cl (S.drop j) i):=by
 unfold dp; rw [List.getElem?_map,List.getElem?_range hi]; rfl
theorem yQ {s:Vs} {S:SS} (h:oe s S):dp s S 0=s.sl:=by
 refine Lk (cn ..) h.OQ fun i hi=>?_
 rw [im _ _ _ _ hi]
 have hl:i<s.sl.length:=by rw [h.OQ]; exact hi
 have hx:=List.getElem?_eq_getElem hl
 rw [List.getD_eq_getElem?_getD,hx]
 generalize s.sl[i]=q at hx
 obtain ⟨f,l⟩:=q
 have:=h.sl _ _ _ hx
 rw [this]; rfl
theorem wG {S:SS} {j i:Nat} {x:Sl} (h:S[j]?=some (i,x)) (k:Nat):cl (S.drop j) k=if i=k then x::cl (S.drop (j+1)) k else cl (S.drop (j+1)) k:=by
 have aK:=(List.getElem?_eq_some_iff.1 h).1
 have aB:S.drop j=(i,x)::S.drop (j+1):=by rw [List.drop_eq_getElem_cons aK]; congr 1; rw [List.getElem?_eq_getElem aK] at h; injection h
 rw [aB]
 unfold cl
 by_cases hk:i=k
 ·subst hk; simp
 ·simp [hk]
theorem oi {s:Vs} {S:SS} (h:oe s S) {j i:Nat} {x:Sl} (hx:S[j]?=some (i,x)):(dp s S j)[i]?=some (false,x::cl (S.drop (j+1)) i)∧dp s S (j+1)=(dp s S j).set i (false,cl (S.drop (j+1)) i):=by
 have QM:i<4:=h.it _ (List.mem_of_getElem? hx)
 have hl:i<s.sl.length:=by rw [h.OQ]; exact QM
 have hg:=List.getElem?_eq_getElem hl
 have hf:(s.sl.getD i (true,[])).1=false:=by
  rw [List.getD_eq_getElem?_getD,hg]
  generalize s.sl[i]=q at hg
  obtain ⟨f,l⟩:=q
  cases f with
  | false=>rfl
  | true =>
   have h1:=h.sl _ _ _ hg
   rw [h.sf _ _ _ hg rfl] at h1
   have h2:=wG hx i
   have hm:x∈cl S i:=by
    unfold cl
    exact List.mem_map.2 ⟨(i,x),List.mem_filter.2 ⟨List.mem_of_getElem? hx,by simp⟩,rfl⟩
   rw [←h1] at hm
   cases hm
 constructor
 ·rw [im _ _ _ _ QM,hf,wG hx,if_pos rfl]
 ·refine Lk (cn ..) (by rw [List.length_set]; exact cn ..) fun k hk=>?_
  rw [im _ _ _ _ hk]
  by_cases yI:i=k
  ·subst yI
   rw [List.getElem?_set_self (by rw [cn]; exact QM),hf]
  ·rw [List.getElem?_set_ne yI,im _ _ _ _ hk,wG hx,if_neg yI]
structure VH where
 left:HM
 done:HM
 f:Bool
theorem pH {α:Type}:∀{l:List α} {i:Nat} {x:α},l[i]?=some x→l.Perm (x::l.eraseIdx i)
 | [],i,x,h=>by simp at h
 | y::l,0,x,h=>by simp at h; subst h; simp
 | y::l,i+1,x,h=>by
  simp only [List.getElem?_cons_succ] at h
  simp only [List.eraseIdx_cons_succ]
  exact ((pH h).cons y).trans (List.Perm.swap x y _)
def W3 (s:Vs) (st:St) (A:HM) (it n c:Int) (b:Bool) (lv:Nat) (z:VH):bh:=⟨11,[(0,.ptr 0 0),(3,.ptr 6 0),(7,.dv (I it)),(8,.dv (I n)),(9,.dv (I c)),(10,.dv (B b)),(11,.dv (I lv)),(97,.ptr 10 0)],vK z.f (aJ s z.done)++[(6,VF st),(8,.held),(10,.jb 8 [] (.omap eh (A.map pT)) (z.left.map pT) none)]⟩
structure S5 where
 j:Nat
 h:Bool
def Uj (s s1:Vs) (S:SS) (st:St) (it n c:Int) (b:Bool) (lv:Nat) (f:Bool) (z:S5):bh:=⟨11,[(0,.ptr 0 0),(3,.ptr 6 0),(7,.dv (I it)),(8,.dv (I n)),(9,.dv (I c)),(10,.dv (B b)),(11,.dv (I lv)),(112,.pre 5 0 0 [] 1 0 lv),(113,.dv (I lv)),(114,.dv (I z.j))],xm f z.h false { s1 with sl:=dp s S z.j }++[(6,VF st)]⟩
theorem wH (m:HM) (k:Ky) (x:Int):(bO m k x).length≤m.length+1:=by
 induction m with
 | nil=>simp [bO]
 | cons p r ih =>
  simp only [bO]
  split
  ·simp
  ·simp only [List.length_cons]; omega
theorem uq {H:HM}:∀{l:List Mv} {m A:HM},ko H m l=.ok A→A.length≤m.length+2 * l.length
 | [],m,A,h=>by simp only [ko] at h; injection h with h; subst h; simp
 | v::r,m,A,h=>by
  simp only [ko] at h
  split at h
  ·cases h
  have hp:∀m1:HM,(if v.t ≠ 0 then bO m1 (v.t,v.it) (hold m1 H (v.t,v.it)+v.n) else m1).length≤m1.length+1:=by
   intro m1; split
   ·exact wH ..
   ·omega
  split at h
  ·split at h
   ·cases h
   ·have h1:=uq h
    have h2:=hp (bO m (v.f,v.it) (hold m H (v.f,v.it) - v.n))
    have h3:=wH m (v.f,v.it) (hold m H (v.f,v.it) - v.n)
    simp only [List.length_cons]
    omega
  ·have h1:=uq h
   have h2:=hp m
   simp only [List.length_cons]
   omega
theorem AK {H:HM}:∀{l:List Mv} {m:HM} {e:Int},ko H m l=.err e→e ≠ 0
 | [],m,e,h=>by simp only [ko] at h; cases h
 | v::r,m,e,h=>by
  simp only [ko] at h
  split at h
  ·injection h with h; omega
  split at h
  ·split at h
   ·injection h with h; omega
   ·exact AK h
  ·exact AK h
theorem lQ {S:SS} {i:Nat} (h:cl S i=[]) (j:Nat):cl (S.drop j) i=[]:=by
 cases hq:cl (S.drop j) i with
 | nil=>rfl
 | cons x r =>
  have hm:x∈cl (S.drop j) i:=by rw [hq]; exact List.mem_cons_self
  unfold cl at hm
  obtain ⟨p,h1,h2⟩:=List.mem_map.1 hm
  obtain ⟨h3,h4⟩:=List.mem_filter.1 h1
  have h5:x∈cl S i:=by
   unfold cl
   exact List.mem_map.2 ⟨p,List.mem_filter.2 ⟨List.mem_of_mem_drop h3,h4⟩,h2⟩
  rw [h] at h5; cases h5
set_option maxHeartbeats 4000000 in
theorem Io (s:Vs) (S:SS) (h:oe s S) (st:St) (hl:st.mv.length≤1000) (hH:∀k,0≤hv s.H k∧hv s.H k≤1152921504606846976) (aT:s.H.length≤100000) (hw:1≤s.ab∧s.ab≤1099511627776) (qm:0≤s.last) (Rx:0≤s.work∧s.work≤1152921504606846976) (S6:∀j i,0≤iY (cl (S.drop j) i)∧iY (cl (S.drop j) i)≤1152921504606846976∧0≤iZ (cl (S.drop j) i)∧iZ (cl (S.drop j) i)≤1152921504606846976)
  (OV:∀A it n c,ko s.H [] st.mv=.ok A→bQ s.coin st=(it,n,c,true)→0≤it∧it<4∧1≤n∧n≤1099511627776∧1≤c∧c≤1099511627776)
  (iU:∀A,ko s.H [] st.mv=.ok A→∀done k now left,(done++(k,now)::left).Perm A→∃i:Nat,K4 (aJ s done) k i now∧cx (aJ s done) k now=cx s k now) :
  dK Tryz.prog 21 [.ptr 0 0,AE st] 6 (vK false s) 9 (lN s S st (eS s S st)):=by
 refine yh aG mixed (aq _) (ar _) Tryz.func21 rfl rfl (by kernel_rfl) ?_
 repeat first | refine ⟨id,?_⟩ | refine ⟨fun _ h=>cf h,?_⟩ | refine ⟨fun _ h=>ax h,?_⟩ | refine ⟨fun h=>⟨h,fun h2=>aQ h h2⟩,?_⟩ | refine ⟨fun h=>⟨h,fun h2=>aD h h2⟩,?_⟩
 refine ⟨by kernel_rfl,fun hc=>?_,fun hc=>?_⟩
 ·have hr:eS s S st=.err 1:=by unfold eS; rw [if_pos hc]
  rw [hr]
  exact ⟨_,_,⟨rfl,rfl⟩,by kernel_rfl,⟨rf,tv⟩,⟨rf,rf,rf,rf,rf,rf,rfl,rfl,rfl,rfl,rfl,tv⟩,⟨rfl,rfl⟩,⟨rfl,rfl⟩,⟨rfl,rfl⟩,⟨rfl,rfl⟩,⟨rfl,rfl⟩,tv⟩
 have Ig:s.last≤st.tick∧st.tick≤1099511627776:=by
  simp only [Bool.cond_true_left,Bool.or_eq_false_iff,decide_eq_false_iff_not] at hc; omega
 have Uk:=AB s S h st.tick (by omega)
 have YK:=sm s (by rw [h.bL,List.length_map]; have:=h.len; omega)
 have xd:=Nh s st.mv hl hH
 have rj:eS s S st=match ko s.H [] st.mv with
  | .err e=>.err e
  | .ok A=>if s.aC<Lj s S st+iH s.H A then .err 22 else .ok A:=by
  unfold eS; rw [if_neg (by rw [hc]; simp)]
 cases hA:ko s.H [] st.mv with
 | err e =>
  rw [hA] at xd rj
  simp only at rj
  have MD:e ≠ 0:=AK hA
  refine .inr ⟨[0,1,2,3,4,5],[.ptr 0 0,.dv (AD st.mv)],vK false s,2,_,_,xd,by kernel_rfl,by kernel_rfl,⟨rfl,rf,tv⟩,⟨⟨rf,rf,rf,rf,rf,rf,rfl,rfl,rfl,rfl,rfl,tv⟩,⟨rfl,rfl⟩,⟨rfl,rfl⟩,⟨rfl,rfl⟩,⟨rfl,rfl⟩,⟨rfl,rfl⟩,tv⟩,?_⟩
  refine ⟨fun _=>?_,fun h9=>absurd h9 (by simpa using MD)⟩
  rw [rj]
  exact ⟨_,_,⟨rfl,rfl⟩,by kernel_rfl,⟨rf,tv⟩,⟨rf,rf,rf,rf,rf,rf,rfl,rfl,rfl,rfl,rfl,tv⟩,⟨rfl,rfl⟩,⟨rfl,rfl⟩,⟨rfl,rfl⟩,⟨rfl,rfl⟩,⟨rfl,rfl⟩,tv⟩
 | ok A =>
  rw [hA] at xd rj
  simp only at rj
  refine .inr ⟨[0,1,2,3,4,5],[.ptr 0 0,.dv (AD st.mv)],vK false s,2,_,_,xd,by kernel_rfl,by kernel_rfl,⟨rfl,rf,tv⟩,⟨⟨rf,rf,rf,rf,rf,rf,rfl,rfl,rfl,rfl,rfl,tv⟩,⟨rfl,rfl⟩,⟨rfl,rfl⟩,⟨rfl,rfl⟩,⟨rfl,rfl⟩,⟨rfl,rfl⟩,tv⟩,?_⟩
  refine ⟨fun h9=>by simp at h9,fun _=>?_⟩
  have VI:=CA s st
  generalize GZ:bQ s.coin st=sa at *
  obtain ⟨it,n,c,b⟩:=sa
  refine .inr ⟨[0,1,2,3,4,5],[.ptr 0 0,AE st],vK false s,0,_,_,VI,by kernel_rfl,by kernel_rfl,⟨rfl,⟨rf,rf,rf,rf,rf,rf,rf,tv⟩,tv⟩,⟨⟨rf,rf,rf,rf,rf,rf,rfl,rfl,rfl,rfl,rfl,tv⟩,⟨rfl,rfl⟩,⟨rfl,rfl⟩,⟨rfl,rfl⟩,⟨rfl,rfl⟩,⟨rfl,rfl⟩,tv⟩,?_⟩
  refine .inr ⟨[0,1,2,3,4,5],[.ptr 0 0,.dv (I st.tick)],vK false s,0,_,_,Uk,by kernel_rfl,by kernel_rfl,⟨rfl,rf,tv⟩,⟨⟨rf,rf,rf,rf,rf,rf,rfl,rfl,rfl,rfl,rfl,tv⟩,⟨rfl,rfl⟩,⟨rfl,rfl⟩,⟨rfl,rfl⟩,⟨rfl,rfl⟩,⟨rfl,rfl⟩,tv⟩,?_⟩
  refine .inr ⟨[0,1,2,3,4,5],[.ptr 0 0],vK false s,0,_,_,YK,by kernel_rfl,by kernel_rfl,⟨rfl,tv⟩,⟨⟨rf,rf,rf,rf,rf,rf,rfl,rfl,rfl,rfl,rfl,tv⟩,⟨rfl,rfl⟩,⟨rfl,rfl⟩,⟨rfl,rfl⟩,⟨rfl,rfl⟩,⟨rfl,rfl⟩,tv⟩,?_⟩
  have YL:du S (st.tick - s.ab)≤1000:=Nat.le_trans (by unfold du; exact (List.takeWhile_sublist _).length_le) h.len
  have YM:s.bL.length≤1000:=by rw [h.bL,List.length_map]; exact h.len
  refine ⟨fun _=>⟨by omega,by omega⟩,?_⟩
  have W4:A.length≤100000:=by have:=uq hA; simp only [List.length_nil] at this; omega
  generalize oE:du S (st.tick - s.ab)=lv at *
  cases b
  ·refine ⟨fun hb=>(by cases hb),fun _=>?_⟩
   obtain ⟨z0,DG⟩:∃z0:Int,(s.H.length:Int)+(s.bL.length:Int) - (lv:Int)=z0:=⟨_,rfl⟩
   have VJ:Lj s S st=z0:=by unfold Lj; rw [GZ,oE]; simp only [cond_false,Int.add_zero]; exact DG
   have M6:-1000≤z0∧z0≤1000000:=by omega
   rw [VJ] at rj
   refine ⟨VG,W0 s st A it n c false lv,fun z=>z.sz+iH s.H z.left=z0+iH s.H A∧z0 - ((A.length:Int) - (z.left.length:Int))≤z.sz∧z.sz≤z0+((A.length:Int) - (z.left.length:Int))∧z.left.length≤A.length,fun z=>z.left.length,⟨A,z0⟩,fun _=>rfl,?_,?_,?_⟩
   ·exact ⟨⟨rfl,rfl,rfl,rf,rf,rf,rf,rf,az DG,rfl,tv⟩,⟨⟨rf,rf,rf,rf,rf,rf,rfl,rfl,rfl,rfl,rfl,tv⟩,⟨rfl,rfl⟩,⟨rfl,rfl⟩,⟨rfl,rfl⟩,⟨rfl,rfl⟩,⟨rfl,rfl⟩,⟨rf,rf,rf,rf,rf,rf,rf,tv⟩,tv,⟨rfl,rfl,rfl,rfl,.inl rfl,tv⟩,tv⟩,rfl,rfl⟩
   ·exact ⟨rfl,by simp only; omega,by simp only; omega,Nat.le_refl _⟩
   ·rintro ⟨left,sz⟩ ⟨h1,h2,h3,h4⟩
    simp only at h1 h2 h3 h4
    refine ⟨tv,fun h5=>⟨(fun h6=>by cases h6),fun _=>?_⟩,fun pos cc iA=>⟨fun _=>?_,fun h6=>by cases h6⟩⟩
    ·have hz:left=[]:=by simpa using h5
     subst hz
     have VK:sz=z0+iH s.H A:=by have:iH s.H []=0:=rfl; omega
     refine ⟨fun hq=>?_,fun hq=>?_⟩
     ·have hq:s.aC<sz:=of_decide_eq_true hq
      rw [if_pos (by omega)] at rj
      rw [rj]
      exact ⟨_,_,⟨rfl,rfl⟩,by kernel_rfl,⟨rf,tv⟩,⟨rf,rf,rf,rf,rf,rf,rfl,rfl,rfl,rfl,rfl,tv⟩,⟨rfl,rfl⟩,⟨rfl,rfl⟩,⟨rfl,rfl⟩,⟨rfl,rfl⟩,⟨rfl,rfl⟩,tv⟩
     have hq:¬ s.aC<sz:=of_decide_eq_false hq
     rw [if_neg (by omega)] at rj
     rw [rj]
     refine ⟨VH,W3 s st A it n c false lv,fun z=>(z.done++z.left).Perm A∧z.f=fF s z.done,fun z=>z.left.length,⟨A,[],false⟩,fun z=>by obtain ⟨z1,z2,z3⟩:=z; cases z3 <;> rfl,?_,?_,?_⟩
     ·exact ⟨⟨rfl,rfl,rf,rf,rf,rf,rf,rfl,tv⟩,⟨⟨rf,rf,rf,rf,rf,rf,rfl,rfl,rfl,rfl,rfl,tv⟩,⟨rfl,rfl⟩,⟨rfl,rfl⟩,⟨rfl,rfl⟩,⟨rfl,rfl⟩,⟨rfl,rfl⟩,⟨rf,rf,rf,rf,rf,rf,rf,tv⟩,tv,⟨rfl,rfl,rfl,rfl,.inl rfl,tv⟩,tv⟩,rfl,rfl⟩
     ·exact ⟨List.Perm.refl _,rfl⟩
     ·rintro ⟨left,done,f⟩ ⟨g1,g2⟩
      simp only at g1 g2
      refine ⟨tv,fun h5=>⟨(fun h6=>by cases h6),fun _=>?_⟩,fun pos cc iA=>⟨fun _=>?_,fun h6=>by cases h6⟩⟩
      ·have hz:left=[]:=by simpa using h5
       subst hz
       have k1:(aJ s done).bL=s.bL:=jL s done
       have k2:(aJ s done).sl=s.sl:=ny s done
       have k3:s.bL.length=S.length:=by rw [h.bL,List.length_map]
       have k4:lv≤S.length:=by rw [←oE]; unfold du; exact (List.takeWhile_sublist _).length_le
       have k5:f=fF s A:=by rw [g2]; unfold fF; exact CN (by simpa using g1) _
       have k6:done.Perm A:=by simpa using g1
       have k8:=lP s done
       have k9:done.length≤100000:=by rw [k6.length_eq]; exact W4
       generalize eZ:aJ s done=s1 at *
       have S7:dp s S 0=s1.sl:=by rw [k2]; exact yQ h
       cases f
       ·refine .inr (.inl ⟨fun _=>⟨by simp,by simp,by simp only [k1,List.length_map,Option.getD_some]; omega⟩,?_⟩)
        refine ⟨S5,Uj s s1 S st it n c false lv false,fun z=>z.j≤lv∧z.h=decide (0<z.j),fun z=>lv - z.j,⟨0,false⟩,fun z=>by obtain ⟨z1,z2⟩:=z; cases z2 <;> rfl,?_,?_,?_⟩
        ·exact ⟨⟨rfl,rfl,rf,rf,rf,rf,rf,rfl,rf,rf,tv⟩,⟨⟨rf,rf,rf,rf,rf,rf,rfl,rfl,rfl,rfl,rfl,tv⟩,⟨rfl,rfl⟩,⟨rfl,rfl⟩,⟨rfl,rfl⟩,⟨rfl,by rw [S7]⟩,⟨rfl,rfl⟩,⟨rf,rf,rf,rf,rf,rf,rf,tv⟩,tv⟩,rfl,rfl⟩
        ·exact ⟨Nat.zero_le _,rfl⟩
        ·rintro ⟨j,hh⟩ ⟨q1,q2⟩
         simp only at q1 q2
         refine ⟨fun aK=>?_,fun dk=>?_⟩
         ·have aK:j<lv:=by have:=of_decide_eq_true aK; simp only [Int.ofNat_lt] at this; exact this
          obtain ⟨⟨i4,x0⟩,ke⟩:∃q,S[j]?=some q:=⟨_,List.getElem?_eq_getElem (by omega)⟩
          have QM:i4<4:=h.it _ (List.mem_of_getElem? ke)
          have sn:(s1.bL.map I)[0+((j:Int)).toNat]?=some (I (i4:Int)):=by rw [k1,h.bL,List.map_map,List.getElem?_map,Nat.zero_add,Int.toNat_natCast,ke]; rfl
          obtain ⟨e1,e2⟩:=oi h ke
          have iG:((dp s S j).map mD)[((i4:Int)).toNat]?=some (.ay 5 (bT x0::(cl (S.drop (j+1)) i4).map bT)):=by rw [List.getElem?_map,Int.toNat_natCast,e1]; rfl
          refine ⟨fun _=>⟨by simp only; omega,by simp only; omega⟩,I (i4:Int),fun _=>sn,?_⟩
          have ek:(0:Int)≤(i4:Int)∧(i4:Int)<(((dp s S j).map mD).length:Int):=⟨by omega,by rw [List.length_map,cn]; omega⟩
          have b4:DV.ay 1 ((((dp s S j).map mD).set ((i4:Int)).toNat .any).set ((i4:Int)).toNat (.ay 5 ((cl (S.drop (j+1)) i4).map bT)))=.ay 1 ((dp s S (j+1)).map mD):=by
           rw [List.set_set,Int.toNat_natCast,e2,List.map_set]; rfl
          have wI:DV.ay 5 (List.drop 1 (List.take ((((bT x0::(cl (S.drop (j+1)) i4).map bT).length:Nat):Int)).toNat (bT x0::(cl (S.drop (j+1)) i4).map bT)))=DV.ay 5 ((cl (S.drop (j+1)) i4).map bT):=by
           rw [Int.toNat_natCast,List.take_length]; rfl
          cases hh
          ·refine ⟨fun _=>ek,.ay 5 (bT x0::(cl (S.drop (j+1)) i4).map bT),fun _=>iG,?_⟩
           refine .inr (.inr ⟨.ay 5 (bT x0::(cl (S.drop (j+1)) i4).map bT),fun _=>iG,⟨by simp,by simp; omega,by simp⟩,?_⟩)
           refine ⟨.ay 5 (bT x0::(cl (S.drop (j+1)) i4).map bT),iG,?_⟩
           refine ⟨fun _=>by rw [List.length_set]; exact ek,[.ay 5 ((cl (S.drop (j+1)) i4).map bT)],⟨wI,tv⟩,.any,List.getElem?_set_self (by rw [List.length_map,cn]; omega),?_⟩
           refine ⟨by kernel_rfl,fun _=>⟨by simp only; omega,by simp only; omega⟩,⟨j+1,true⟩,⟨⟨rfl,rfl,rf,rf,rf,rf,rf,rfl,rf,az (by simp),tv⟩,⟨⟨rf,rf,rf,rf,rf,rf,rfl,rfl,rfl,rfl,rfl,tv⟩,⟨rfl,rfl⟩,⟨rfl,rfl⟩,⟨rfl,rfl⟩,⟨rfl,b4⟩,⟨rfl,rfl⟩,⟨rf,rf,rf,rf,rf,rf,rf,tv⟩,tv⟩,rfl,rfl⟩,⟨by simp only; omega,by simp⟩,by simp only; omega⟩
          ·refine ⟨fun _=>ek,.ay 5 (bT x0::(cl (S.drop (j+1)) i4).map bT),fun _=>iG,?_⟩
           refine .inr (.inr ⟨.ay 5 (bT x0::(cl (S.drop (j+1)) i4).map bT),fun _=>iG,⟨by simp,by simp; omega,by simp⟩,?_⟩)
           refine ⟨.ay 5 (bT x0::(cl (S.drop (j+1)) i4).map bT),iG,?_⟩
           refine ⟨fun _=>by rw [List.length_set]; exact ek,[.ay 5 ((cl (S.drop (j+1)) i4).map bT)],⟨wI,tv⟩,.any,List.getElem?_set_self (by rw [List.length_map,cn]; omega),?_⟩
           refine ⟨by kernel_rfl,fun _=>⟨by simp only; omega,by simp only; omega⟩,⟨j+1,true⟩,⟨⟨rfl,rfl,rf,rf,rf,rf,rf,rfl,rf,az (by simp),tv⟩,⟨⟨rf,rf,rf,rf,rf,rf,rfl,rfl,rfl,rfl,rfl,tv⟩,⟨rfl,rfl⟩,⟨rfl,rfl⟩,⟨rfl,rfl⟩,⟨rfl,b4⟩,⟨rfl,rfl⟩,⟨rf,rf,rf,rf,rf,rf,rf,tv⟩,tv⟩,rfl,rfl⟩,⟨by simp only; omega,by simp⟩,by simp only; omega⟩
         ·have dk:j=lv:=by have:=of_decide_eq_false dk; simp only [Int.ofNat_lt] at this; omega
          subst dk
          have u4:DV.ay 1 (List.drop ((j:Int)).toNat (List.take (((s1.bL.map I).length:Nat):Int).toNat (s1.bL.map I)))=vK.iL (s1.bL.drop j):=by
           rw [Int.toNat_natCast,Int.toNat_natCast,List.take_length,←List.map_drop]; rfl
          refine .inl ⟨⟨by simp,by simp only [Option.getD_some,Option.getD_none,List.length_map,k1,k3]; omega,by simp⟩,fun _=>⟨by simp only; omega,by simp only; omega⟩,?_⟩
          refine ⟨(fun h9=>by cases h9),fun _=>?_⟩
          have k7:dp s1 S j=dp s S j:=by unfold dp; rw [k2]
          cases hh
          ·have so:lN s S st (.ok A) [.dv (I 0)] (xm false false true { df s1 S j with last:=st.tick }):=by
            refine ⟨done,k6,rfl,?_⟩
            rw [eZ,←k5,GZ,oE,←q2]
            have h0:cM s S st s1={ df s1 S j with last:=st.tick }:=by unfold cM; rw [GZ,oE]; rfl
            rw [h0]; simp
           exact ⟨_,_,so,by kernel_rfl,⟨rf,tv⟩,⟨rf,rf,rf,rf,rf,rf,rfl,rfl,rfl,rfl,rfl,tv⟩,⟨rfl,rfl⟩,⟨rfl,rfl⟩,⟨rfl,rfl⟩,⟨rfl,by rw [←k7]; rfl⟩,⟨rfl,u4⟩,tv⟩
          ·have so:lN s S st (.ok A) [.dv (I 0)] (xm false true true { df s1 S j with last:=st.tick }):=by
            refine ⟨done,k6,rfl,?_⟩
            rw [eZ,←k5,GZ,oE,←q2]
            have h0:cM s S st s1={ df s1 S j with last:=st.tick }:=by unfold cM; rw [GZ,oE]; rfl
            rw [h0]; simp
           exact ⟨_,_,so,by kernel_rfl,⟨rf,tv⟩,⟨rf,rf,rf,rf,rf,rf,rfl,rfl,rfl,rfl,rfl,tv⟩,⟨rfl,rfl⟩,⟨rfl,rfl⟩,⟨rfl,rfl⟩,⟨rfl,by rw [←k7]; rfl⟩,⟨rfl,u4⟩,tv⟩
       ·refine .inr (.inl ⟨fun _=>⟨by simp,by simp,by simp only [k1,List.length_map,Option.getD_some]; omega⟩,?_⟩)
        refine ⟨S5,Uj s s1 S st it n c false lv true,fun z=>z.j≤lv∧z.h=decide (0<z.j),fun z=>lv - z.j,⟨0,false⟩,fun z=>by obtain ⟨z1,z2⟩:=z; cases z2 <;> rfl,?_,?_,?_⟩
        ·exact ⟨⟨rfl,rfl,rf,rf,rf,rf,rf,rfl,rf,rf,tv⟩,⟨⟨rf,rf,rf,rf,rf,rf,rfl,rfl,rfl,rfl,rfl,tv⟩,⟨rfl,rfl⟩,⟨rfl,rfl⟩,⟨rfl,rfl⟩,⟨rfl,by rw [S7]⟩,⟨rfl,rfl⟩,⟨rf,rf,rf,rf,rf,rf,rf,tv⟩,tv⟩,rfl,rfl⟩
        ·exact ⟨Nat.zero_le _,rfl⟩
        ·rintro ⟨j,hh⟩ ⟨q1,q2⟩
         simp only at q1 q2
         refine ⟨fun aK=>?_,fun dk=>?_⟩
         ·have aK:j<lv:=by have:=of_decide_eq_true aK; simp only [Int.ofNat_lt] at this; exact this
          obtain ⟨⟨i4,x0⟩,ke⟩:∃q,S[j]?=some q:=⟨_,List.getElem?_eq_getElem (by omega)⟩
          have QM:i4<4:=h.it _ (List.mem_of_getElem? ke)
          have sn:(s1.bL.map I)[0+((j:Int)).toNat]?=some (I (i4:Int)):=by rw [k1,h.bL,List.map_map,List.getElem?_map,Nat.zero_add,Int.toNat_natCast,ke]; rfl
          obtain ⟨e1,e2⟩:=oi h ke
          have iG:((dp s S j).map mD)[((i4:Int)).toNat]?=some (.ay 5 (bT x0::(cl (S.drop (j+1)) i4).map bT)):=by rw [List.getElem?_map,Int.toNat_natCast,e1]; rfl
          refine ⟨fun _=>⟨by simp only; omega,by simp only; omega⟩,I (i4:Int),fun _=>sn,?_⟩
          have ek:(0:Int)≤(i4:Int)∧(i4:Int)<(((dp s S j).map mD).length:Int):=⟨by omega,by rw [List.length_map,cn]; omega⟩
          have b4:DV.ay 1 ((((dp s S j).map mD).set ((i4:Int)).toNat .any).set ((i4:Int)).toNat (.ay 5 ((cl (S.drop (j+1)) i4).map bT)))=.ay 1 ((dp s S (j+1)).map mD):=by
           rw [List.set_set,Int.toNat_natCast,e2,List.map_set]; rfl
          have wI:DV.ay 5 (List.drop 1 (List.take ((((bT x0::(cl (S.drop (j+1)) i4).map bT).length:Nat):Int)).toNat (bT x0::(cl (S.drop (j+1)) i4).map bT)))=DV.ay 5 ((cl (S.drop (j+1)) i4).map bT):=by
           rw [Int.toNat_natCast,List.take_length]; rfl
          cases hh
          ·refine ⟨fun _=>ek,.ay 5 (bT x0::(cl (S.drop (j+1)) i4).map bT),fun _=>iG,?_⟩
           refine .inr (.inr ⟨.ay 5 (bT x0::(cl (S.drop (j+1)) i4).map bT),fun _=>iG,⟨by simp,by simp; omega,by simp⟩,?_⟩)
           refine ⟨.ay 5 (bT x0::(cl (S.drop (j+1)) i4).map bT),iG,?_⟩
           refine ⟨fun _=>by rw [List.length_set]; exact ek,[.ay 5 ((cl (S.drop (j+1)) i4).map bT)],⟨wI,tv⟩,.any,List.getElem?_set_self (by rw [List.length_map,cn]; omega),?_⟩
           refine ⟨by kernel_rfl,fun _=>⟨by simp only; omega,by simp only; omega⟩,⟨j+1,true⟩,⟨⟨rfl,rfl,rf,rf,rf,rf,rf,rfl,rf,az (by simp),tv⟩,⟨⟨rf,rf,rf,rf,rf,rf,rfl,rfl,rfl,rfl,rfl,tv⟩,⟨rfl,rfl⟩,⟨rfl,rfl⟩,⟨rfl,rfl⟩,⟨rfl,b4⟩,⟨rfl,rfl⟩,⟨rf,rf,rf,rf,rf,rf,rf,tv⟩,tv⟩,rfl,rfl⟩,⟨by simp only; omega,by simp⟩,by simp only; omega⟩
          ·refine ⟨fun _=>ek,.ay 5 (bT x0::(cl (S.drop (j+1)) i4).map bT),fun _=>iG,?_⟩
           refine .inr (.inr ⟨.ay 5 (bT x0::(cl (S.drop (j+1)) i4).map bT),fun _=>iG,⟨by simp,by simp; omega,by simp⟩,?_⟩)
           refine ⟨.ay 5 (bT x0::(cl (S.drop (j+1)) i4).map bT),iG,?_⟩
           refine ⟨fun _=>by rw [List.length_set]; exact ek,[.ay 5 ((cl (S.drop (j+1)) i4).map bT)],⟨wI,tv⟩,.any,List.getElem?_set_self (by rw [List.length_map,cn]; omega),?_⟩
           refine ⟨by kernel_rfl,fun _=>⟨by simp only; omega,by simp only; omega⟩,⟨j+1,true⟩,⟨⟨rfl,rfl,rf,rf,rf,rf,rf,rfl,rf,az (by simp),tv⟩,⟨⟨rf,rf,rf,rf,rf,rf,rfl,rfl,rfl,rfl,rfl,tv⟩,⟨rfl,rfl⟩,⟨rfl,rfl⟩,⟨rfl,rfl⟩,⟨rfl,b4⟩,⟨rfl,rfl⟩,⟨rf,rf,rf,rf,rf,rf,rf,tv⟩,tv⟩,rfl,rfl⟩,⟨by simp only; omega,by simp⟩,by simp only; omega⟩
         ·have dk:j=lv:=by have:=of_decide_eq_false dk; simp only [Int.ofNat_lt] at this; omega
          subst dk
          have u4:DV.ay 1 (List.drop ((j:Int)).toNat (List.take (((s1.bL.map I).length:Nat):Int).toNat (s1.bL.map I)))=vK.iL (s1.bL.drop j):=by
           rw [Int.toNat_natCast,Int.toNat_natCast,List.take_length,←List.map_drop]; rfl
          refine .inl ⟨⟨by simp,by simp only [Option.getD_some,Option.getD_none,List.length_map,k1,k3]; omega,by simp⟩,fun _=>⟨by simp only; omega,by simp only; omega⟩,?_⟩
          refine ⟨(fun h9=>by cases h9),fun _=>?_⟩
          have k7:dp s1 S j=dp s S j:=by unfold dp; rw [k2]
          cases hh
          ·have so:lN s S st (.ok A) [.dv (I 0)] (xm true false true { df s1 S j with last:=st.tick }):=by
            refine ⟨done,k6,rfl,?_⟩
            rw [eZ,←k5,GZ,oE,←q2]
            have h0:cM s S st s1={ df s1 S j with last:=st.tick }:=by unfold cM; rw [GZ,oE]; rfl
            rw [h0]; simp
           exact ⟨_,_,so,by kernel_rfl,⟨rf,tv⟩,⟨rf,rf,rf,rf,rf,rf,rfl,rfl,rfl,rfl,rfl,tv⟩,⟨rfl,rfl⟩,⟨rfl,rfl⟩,⟨rfl,rfl⟩,⟨rfl,by rw [←k7]; rfl⟩,⟨rfl,u4⟩,tv⟩
          ·have so:lN s S st (.ok A) [.dv (I 0)] (xm true true true { df s1 S j with last:=st.tick }):=by
            refine ⟨done,k6,rfl,?_⟩
            rw [eZ,←k5,GZ,oE,←q2]
            have h0:cM s S st s1={ df s1 S j with last:=st.tick }:=by unfold cM; rw [GZ,oE]; rfl
            rw [h0]; simp
           exact ⟨_,_,so,by kernel_rfl,⟨rf,tv⟩,⟨rf,rf,rf,rf,rf,rf,rfl,rfl,rfl,rfl,rfl,tv⟩,⟨rfl,rfl⟩,⟨rfl,rfl⟩,⟨rfl,rfl⟩,⟨rfl,by rw [←k7]; rfl⟩,⟨rfl,u4⟩,tv⟩
      ·simp only at iA
       rw [List.getElem?_map] at iA
       obtain ⟨⟨k,x⟩,hk,rfl⟩:∃p,left[pos]?=some p∧cc=pT p:=by
        cases hq:left[pos]? with
        | none=>rw [hq] at iA; cases iA
        | some p=>rw [hq] at iA; exact ⟨p,rfl,by simpa using iA.symm⟩
       refine ⟨lO x,?_⟩
       have Be:(done++(k,x)::left.eraseIdx pos).Perm A:=((pH hk).append_left done).symm.trans g1
       obtain ⟨ii,bJ,VL⟩:=iU A hA done k x _ Be
       have cL:=Cx (aJ s done) k ii x bJ
       have Cq:cG (aJ s done) k ii x=aJ s (done++[(k,x)]):=by
        unfold aJ; rw [List.foldl_append]; show cG _ k ii x=cG _ k k.2.toNat x
        rw [show k.2.toNat=ii by have:=bJ.it; omega]
       rw [Cq,VL] at cL
       have sM:fF s (done++[(k,x)])=(f || cx s k x):=by unfold fF; rw [List.any_append,g2]; simp [fF]
       cases f
       ·cases Ll:cx s k x
        ·rw [Ll] at cL sM
         refine .inr ⟨[0,1,2,3,4,5],[.ptr 0 0,.agg [.dv (I k.1),.dv (I k.2)],.dv (I x)],vK false (aJ s done),0,_,_,cL,by kernel_rfl,by kernel_rfl,⟨rfl,⟨rf,rf,tv⟩,rf,tv⟩,⟨⟨rf,rf,rf,rf,rf,rf,rfl,rfl,rfl,rfl,rfl,tv⟩,⟨rfl,rfl⟩,⟨rfl,rfl⟩,⟨rfl,rfl⟩,⟨rfl,rfl⟩,⟨rfl,rfl⟩,tv⟩,?_⟩
         exact ⟨⟨left.eraseIdx pos,done++[(k,x)],false⟩,⟨⟨rfl,rfl,rf,rf,rf,rf,rf,rfl,tv⟩,⟨⟨rf,rf,rf,rf,rf,rf,rfl,rfl,rfl,rfl,rfl,tv⟩,⟨rfl,rfl⟩,⟨rfl,rfl⟩,⟨rfl,rfl⟩,⟨rfl,rfl⟩,⟨rfl,rfl⟩,⟨rf,rf,rf,rf,rf,rf,rf,tv⟩,tv,⟨rfl,rfl,rfl,cP _ _,.inl rfl,tv⟩,tv⟩,rfl,rfl⟩,⟨by simp only [List.append_assoc]; exact Be,sM.symm⟩,by simp only; have:=eE hk; omega⟩
        ·rw [Ll] at cL sM
         refine .inr ⟨[0,1,2,3,4,5],[.ptr 0 0,.agg [.dv (I k.1),.dv (I k.2)],.dv (I x)],vK false (aJ s done),0,_,_,cL,by kernel_rfl,by kernel_rfl,⟨rfl,⟨rf,rf,tv⟩,rf,tv⟩,⟨⟨rf,rf,rf,rf,rf,rf,rfl,rfl,rfl,rfl,rfl,tv⟩,⟨rfl,rfl⟩,⟨rfl,rfl⟩,⟨rfl,rfl⟩,⟨rfl,rfl⟩,⟨rfl,rfl⟩,tv⟩,?_⟩
         exact ⟨⟨left.eraseIdx pos,done++[(k,x)],true⟩,⟨⟨rfl,rfl,rf,rf,rf,rf,rf,rfl,tv⟩,⟨⟨rf,rf,rf,rf,rf,rf,rfl,rfl,rfl,rfl,rfl,tv⟩,⟨rfl,rfl⟩,⟨rfl,rfl⟩,⟨rfl,rfl⟩,⟨rfl,rfl⟩,⟨rfl,rfl⟩,⟨rf,rf,rf,rf,rf,rf,rf,tv⟩,tv,⟨rfl,rfl,rfl,cP _ _,.inl rfl,tv⟩,tv⟩,rfl,rfl⟩,⟨by simp only [List.append_assoc]; exact Be,sM.symm⟩,by simp only; have:=eE hk; omega⟩
       ·cases Ll:cx s k x
        ·rw [Ll] at cL sM
         refine .inr ⟨[0,1,2,3,4,5],[.ptr 0 0,.agg [.dv (I k.1),.dv (I k.2)],.dv (I x)],vK false (aJ s done),0,_,_,cL,by kernel_rfl,by kernel_rfl,⟨rfl,⟨rf,rf,tv⟩,rf,tv⟩,⟨⟨rf,rf,rf,rf,rf,rf,rfl,rfl,rfl,rfl,rfl,tv⟩,⟨rfl,rfl⟩,⟨rfl,rfl⟩,⟨rfl,rfl⟩,⟨rfl,rfl⟩,⟨rfl,rfl⟩,tv⟩,?_⟩
         exact ⟨⟨left.eraseIdx pos,done++[(k,x)],true⟩,⟨⟨rfl,rfl,rf,rf,rf,rf,rf,rfl,tv⟩,⟨⟨rf,rf,rf,rf,rf,rf,rfl,rfl,rfl,rfl,rfl,tv⟩,⟨rfl,rfl⟩,⟨rfl,rfl⟩,⟨rfl,rfl⟩,⟨rfl,rfl⟩,⟨rfl,rfl⟩,⟨rf,rf,rf,rf,rf,rf,rf,tv⟩,tv,⟨rfl,rfl,rfl,cP _ _,.inl rfl,tv⟩,tv⟩,rfl,rfl⟩,⟨by simp only [List.append_assoc]; exact Be,sM.symm⟩,by simp only; have:=eE hk; omega⟩
        ·rw [Ll] at cL sM
         refine .inr ⟨[0,1,2,3,4,5],[.ptr 0 0,.agg [.dv (I k.1),.dv (I k.2)],.dv (I x)],vK false (aJ s done),0,_,_,cL,by kernel_rfl,by kernel_rfl,⟨rfl,⟨rf,rf,tv⟩,rf,tv⟩,⟨⟨rf,rf,rf,rf,rf,rf,rfl,rfl,rfl,rfl,rfl,tv⟩,⟨rfl,rfl⟩,⟨rfl,rfl⟩,⟨rfl,rfl⟩,⟨rfl,rfl⟩,⟨rfl,rfl⟩,tv⟩,?_⟩
         exact ⟨⟨left.eraseIdx pos,done++[(k,x)],true⟩,⟨⟨rfl,rfl,rf,rf,rf,rf,rf,rfl,tv⟩,⟨⟨rf,rf,rf,rf,rf,rf,rfl,rfl,rfl,rfl,rfl,tv⟩,⟨rfl,rfl⟩,⟨rfl,rfl⟩,⟨rfl,rfl⟩,⟨rfl,rfl⟩,⟨rfl,rfl⟩,⟨rf,rf,rf,rf,rf,rf,rf,tv⟩,tv,⟨rfl,rfl,rfl,cP _ _,.inl rfl,tv⟩,tv⟩,rfl,rfl⟩,⟨by simp only [List.append_assoc]; exact Be,sM.symm⟩,by simp only; have:=eE hk; omega⟩
    ·simp only at iA
     rw [List.getElem?_map] at iA
     obtain ⟨⟨k,x⟩,hk,rfl⟩:∃p,left[pos]?=some p∧cc=pT p:=by
      cases hq:left[pos]? with
      | none=>rw [hq] at iA; cases iA
      | some p=>rw [hq] at iA; exact ⟨p,rfl,by simpa using iA.symm⟩
     refine ⟨lO x,?_⟩
     refine ⟨gz,ug k,rfl,rfl,I (hv s.H k),(bm s.H k).isSome,fun _=>CB s.H k,GU s.H k,rfl,?_⟩
     refine ⟨by kernel_rfl,?_⟩
     repeat first | refine ⟨id,?_⟩ | refine ⟨fun _ h=>cf h,?_⟩ | refine ⟨fun _ h=>ax h,?_⟩ | refine ⟨fun h=>⟨h,fun h2=>aQ h h2⟩,?_⟩ | refine ⟨fun h=>⟨h,fun h2=>aD h h2⟩,?_⟩
     have DW:=pG s.H hk
     have hle:=eE hk
     refine ⟨fun hq=>?_,fun hq=>?_⟩
     ·have hd:CM s.H (k,x)=1:=by
       show (bif (bif hv s.H k == 0 then x != 0 else false) then (1:Int) else _)=1
       rw [show (bif hv s.H k == 0 then x != 0 else false)=true from hq]; rfl
      have h0:hv s.H k=0:=by
       cases hz:(hv s.H k == 0) with
       | true=>simpa using hz
       | false=>rw [hz] at hq; cases hq
      refine ⟨fun _=>⟨by simp only; omega,by simp only; omega⟩,?_⟩
      repeat first | refine ⟨id,?_⟩ | refine ⟨fun _ h=>cf h,?_⟩ | refine ⟨fun _ h=>ax h,?_⟩ | refine ⟨fun h=>⟨h,fun h2=>aQ h h2⟩,?_⟩ | refine ⟨fun h=>⟨h,fun h2=>aD h h2⟩,?_⟩
      refine ⟨fun hr=>absurd hr (by rw [h0]; simp),fun _=>?_⟩
      exact ⟨⟨left.eraseIdx pos,sz+1⟩,⟨⟨rfl,rfl,rfl,rf,rf,rf,rf,rf,rf,rfl,tv⟩,⟨⟨rf,rf,rf,rf,rf,rf,rfl,rfl,rfl,rfl,rfl,tv⟩,⟨rfl,rfl⟩,⟨rfl,rfl⟩,⟨rfl,rfl⟩,⟨rfl,rfl⟩,⟨rfl,rfl⟩,⟨rf,rf,rf,rf,rf,rf,rf,tv⟩,tv,⟨rfl,rfl,rfl,cP _ _,.inl rfl,tv⟩,tv⟩,rfl,rfl⟩,⟨by simp only; omega,by simp only; omega,by simp only; omega,by simp only; omega⟩,by simp only; omega⟩
     ·repeat first | refine ⟨id,?_⟩ | refine ⟨fun _ h=>cf h,?_⟩ | refine ⟨fun _ h=>ax h,?_⟩ | refine ⟨fun h=>⟨h,fun h2=>aQ h h2⟩,?_⟩ | refine ⟨fun h=>⟨h,fun h2=>aD h h2⟩,?_⟩
      refine ⟨fun hr=>?_,fun hr=>?_⟩
      ·have hd:CM s.H (k,x)=-1:=by
        show (bif (bif hv s.H k == 0 then x != 0 else false) then (1:Int) else bif (bif hv s.H k != 0 then x == 0 else false) then -1 else 0)=-1
        rw [show (bif hv s.H k == 0 then x != 0 else false)=false from hq,show (bif hv s.H k != 0 then x == 0 else false)=true from hr]; rfl
       refine ⟨fun _=>⟨by simp only; omega,by simp only; omega⟩,?_⟩
       exact ⟨⟨left.eraseIdx pos,sz - 1⟩,⟨⟨rfl,rfl,rfl,rf,rf,rf,rf,rf,rf,rfl,tv⟩,⟨⟨rf,rf,rf,rf,rf,rf,rfl,rfl,rfl,rfl,rfl,tv⟩,⟨rfl,rfl⟩,⟨rfl,rfl⟩,⟨rfl,rfl⟩,⟨rfl,rfl⟩,⟨rfl,rfl⟩,⟨rf,rf,rf,rf,rf,rf,rf,tv⟩,tv,⟨rfl,rfl,rfl,cP _ _,.inl rfl,tv⟩,tv⟩,rfl,rfl⟩,⟨by simp only; omega,by simp only; omega,by simp only; omega,by simp only; omega⟩,by simp only; omega⟩
      ·have hd:CM s.H (k,x)=0:=by
        show (bif (bif hv s.H k == 0 then x != 0 else false) then (1:Int) else bif (bif hv s.H k != 0 then x == 0 else false) then -1 else 0)=0
        rw [show (bif hv s.H k == 0 then x != 0 else false)=false from hq,show (bif hv s.H k != 0 then x == 0 else false)=false from hr]; rfl
       exact ⟨⟨left.eraseIdx pos,sz⟩,⟨⟨rfl,rfl,rfl,rf,rf,rf,rf,rf,rf,rfl,tv⟩,⟨⟨rf,rf,rf,rf,rf,rf,rfl,rfl,rfl,rfl,rfl,tv⟩,⟨rfl,rfl⟩,⟨rfl,rfl⟩,⟨rfl,rfl⟩,⟨rfl,rfl⟩,⟨rfl,rfl⟩,⟨rf,rf,rf,rf,rf,rf,rf,tv⟩,tv,⟨rfl,rfl,rfl,cP _ _,.inl rfl,tv⟩,tv⟩,rfl,rfl⟩,⟨by simp only; omega,by simp only; omega,by simp only; omega,by simp only; omega⟩,by simp only; omega⟩
  ·refine ⟨fun _=>⟨fun _=>⟨by omega,by omega⟩,?_⟩,fun hb=>by cases hb⟩
   obtain ⟨z0,DG⟩:∃z0:Int,(s.H.length:Int)+(s.bL.length:Int) - (lv:Int)+1=z0:=⟨_,rfl⟩
   have VJ:Lj s S st=z0:=by unfold Lj; rw [GZ,oE]; exact DG
   have M6:-1000≤z0∧z0≤1000000:=by omega
   rw [VJ] at rj
   refine ⟨VG,W0 s st A it n c true lv,fun z=>z.sz+iH s.H z.left=z0+iH s.H A∧z0 - ((A.length:Int) - (z.left.length:Int))≤z.sz∧z.sz≤z0+((A.length:Int) - (z.left.length:Int))∧z.left.length≤A.length,fun z=>z.left.length,⟨A,z0⟩,fun _=>rfl,?_,?_,?_⟩
   ·exact ⟨⟨rfl,rfl,rfl,rf,rf,rf,rf,rf,az DG,rfl,tv⟩,⟨⟨rf,rf,rf,rf,rf,rf,rfl,rfl,rfl,rfl,rfl,tv⟩,⟨rfl,rfl⟩,⟨rfl,rfl⟩,⟨rfl,rfl⟩,⟨rfl,rfl⟩,⟨rfl,rfl⟩,⟨rf,rf,rf,rf,rf,rf,rf,tv⟩,tv,⟨rfl,rfl,rfl,rfl,.inl rfl,tv⟩,tv⟩,rfl,rfl⟩
   ·exact ⟨rfl,by simp only; omega,by simp only; omega,Nat.le_refl _⟩
   ·rintro ⟨left,sz⟩ ⟨h1,h2,h3,h4⟩
    simp only at h1 h2 h3 h4
    refine ⟨tv,fun h5=>⟨(fun h6=>by cases h6),fun _=>?_⟩,fun pos cc iA=>⟨fun _=>?_,fun h6=>by cases h6⟩⟩
    ·have hz:left=[]:=by simpa using h5
     subst hz
     have VK:sz=z0+iH s.H A:=by have:iH s.H []=0:=rfl; omega
     refine ⟨fun hq=>?_,fun hq=>?_⟩
     ·have hq:s.aC<sz:=of_decide_eq_true hq
      rw [if_pos (by omega)] at rj
      rw [rj]
      exact ⟨_,_,⟨rfl,rfl⟩,by kernel_rfl,⟨rf,tv⟩,⟨rf,rf,rf,rf,rf,rf,rfl,rfl,rfl,rfl,rfl,tv⟩,⟨rfl,rfl⟩,⟨rfl,rfl⟩,⟨rfl,rfl⟩,⟨rfl,rfl⟩,⟨rfl,rfl⟩,tv⟩
     have hq:¬ s.aC<sz:=of_decide_eq_false hq
     rw [if_neg (by omega)] at rj
     rw [rj]
     refine ⟨VH,W3 s st A it n c true lv,fun z=>(z.done++z.left).Perm A∧z.f=fF s z.done,fun z=>z.left.length,⟨A,[],false⟩,fun z=>by obtain ⟨z1,z2,z3⟩:=z; cases z3 <;> rfl,?_,?_,?_⟩
     ·exact ⟨⟨rfl,rfl,rf,rf,rf,rf,rf,rfl,tv⟩,⟨⟨rf,rf,rf,rf,rf,rf,rfl,rfl,rfl,rfl,rfl,tv⟩,⟨rfl,rfl⟩,⟨rfl,rfl⟩,⟨rfl,rfl⟩,⟨rfl,rfl⟩,⟨rfl,rfl⟩,⟨rf,rf,rf,rf,rf,rf,rf,tv⟩,tv,⟨rfl,rfl,rfl,rfl,.inl rfl,tv⟩,tv⟩,rfl,rfl⟩
     ·exact ⟨List.Perm.refl _,rfl⟩
     ·rintro ⟨left,done,f⟩ ⟨g1,g2⟩
      simp only at g1 g2
      refine ⟨tv,fun h5=>⟨(fun h6=>by cases h6),fun _=>?_⟩,fun pos cc iA=>⟨fun _=>?_,fun h6=>by cases h6⟩⟩
      ·have hz:left=[]:=by simpa using h5
       subst hz
       have k1:(aJ s done).bL=s.bL:=jL s done
       have k2:(aJ s done).sl=s.sl:=ny s done
       have k3:s.bL.length=S.length:=by rw [h.bL,List.length_map]
       have k4:lv≤S.length:=by rw [←oE]; unfold du; exact (List.takeWhile_sublist _).length_le
       have k5:f=fF s A:=by rw [g2]; unfold fF; exact CN (by simpa using g1) _
       have k6:done.Perm A:=by simpa using g1
       have k8:=lP s done
       have k9:done.length≤100000:=by rw [k6.length_eq]; exact W4
       generalize eZ:aJ s done=s1 at *
       have S7:dp s S 0=s1.sl:=by rw [k2]; exact yQ h
       cases f
       ·refine .inr (.inl ⟨fun _=>⟨by simp,by simp,by simp only [k1,List.length_map,Option.getD_some]; omega⟩,?_⟩)
        refine ⟨S5,Uj s s1 S st it n c true lv false,fun z=>z.j≤lv∧z.h=decide (0<z.j),fun z=>lv - z.j,⟨0,false⟩,fun z=>by obtain ⟨z1,z2⟩:=z; cases z2 <;> rfl,?_,?_,?_⟩
        ·exact ⟨⟨rfl,rfl,rf,rf,rf,rf,rf,rfl,rf,rf,tv⟩,⟨⟨rf,rf,rf,rf,rf,rf,rfl,rfl,rfl,rfl,rfl,tv⟩,⟨rfl,rfl⟩,⟨rfl,rfl⟩,⟨rfl,rfl⟩,⟨rfl,by rw [S7]⟩,⟨rfl,rfl⟩,⟨rf,rf,rf,rf,rf,rf,rf,tv⟩,tv⟩,rfl,rfl⟩
        ·exact ⟨Nat.zero_le _,rfl⟩
        ·rintro ⟨j,hh⟩ ⟨q1,q2⟩
         simp only at q1 q2
         refine ⟨fun aK=>?_,fun dk=>?_⟩
         ·have aK:j<lv:=by have:=of_decide_eq_true aK; simp only [Int.ofNat_lt] at this; exact this
          obtain ⟨⟨i4,x0⟩,ke⟩:∃q,S[j]?=some q:=⟨_,List.getElem?_eq_getElem (by omega)⟩
          have QM:i4<4:=h.it _ (List.mem_of_getElem? ke)
          have sn:(s1.bL.map I)[0+((j:Int)).toNat]?=some (I (i4:Int)):=by rw [k1,h.bL,List.map_map,List.getElem?_map,Nat.zero_add,Int.toNat_natCast,ke]; rfl
          obtain ⟨e1,e2⟩:=oi h ke
          have iG:((dp s S j).map mD)[((i4:Int)).toNat]?=some (.ay 5 (bT x0::(cl (S.drop (j+1)) i4).map bT)):=by rw [List.getElem?_map,Int.toNat_natCast,e1]; rfl
          refine ⟨fun _=>⟨by simp only; omega,by simp only; omega⟩,I (i4:Int),fun _=>sn,?_⟩
          have ek:(0:Int)≤(i4:Int)∧(i4:Int)<(((dp s S j).map mD).length:Int):=⟨by omega,by rw [List.length_map,cn]; omega⟩
          have b4:DV.ay 1 ((((dp s S j).map mD).set ((i4:Int)).toNat .any).set ((i4:Int)).toNat (.ay 5 ((cl (S.drop (j+1)) i4).map bT)))=.ay 1 ((dp s S (j+1)).map mD):=by
           rw [List.set_set,Int.toNat_natCast,e2,List.map_set]; rfl
          have wI:DV.ay 5 (List.drop 1 (List.take ((((bT x0::(cl (S.drop (j+1)) i4).map bT).length:Nat):Int)).toNat (bT x0::(cl (S.drop (j+1)) i4).map bT)))=DV.ay 5 ((cl (S.drop (j+1)) i4).map bT):=by
           rw [Int.toNat_natCast,List.take_length]; rfl
          cases hh
          ·refine ⟨fun _=>ek,.ay 5 (bT x0::(cl (S.drop (j+1)) i4).map bT),fun _=>iG,?_⟩
           refine .inr (.inr ⟨.ay 5 (bT x0::(cl (S.drop (j+1)) i4).map bT),fun _=>iG,⟨by simp,by simp; omega,by simp⟩,?_⟩)
           refine ⟨.ay 5 (bT x0::(cl (S.drop (j+1)) i4).map bT),iG,?_⟩
           refine ⟨fun _=>by rw [List.length_set]; exact ek,[.ay 5 ((cl (S.drop (j+1)) i4).map bT)],⟨wI,tv⟩,.any,List.getElem?_set_self (by rw [List.length_map,cn]; omega),?_⟩
           refine ⟨by kernel_rfl,fun _=>⟨by simp only; omega,by simp only; omega⟩,⟨j+1,true⟩,⟨⟨rfl,rfl,rf,rf,rf,rf,rf,rfl,rf,az (by simp),tv⟩,⟨⟨rf,rf,rf,rf,rf,rf,rfl,rfl,rfl,rfl,rfl,tv⟩,⟨rfl,rfl⟩,⟨rfl,rfl⟩,⟨rfl,rfl⟩,⟨rfl,b4⟩,⟨rfl,rfl⟩,⟨rf,rf,rf,rf,rf,rf,rf,tv⟩,tv⟩,rfl,rfl⟩,⟨by simp only; omega,by simp⟩,by simp only; omega⟩
          ·refine ⟨fun _=>ek,.ay 5 (bT x0::(cl (S.drop (j+1)) i4).map bT),fun _=>iG,?_⟩
           refine .inr (.inr ⟨.ay 5 (bT x0::(cl (S.drop (j+1)) i4).map bT),fun _=>iG,⟨by simp,by simp; omega,by simp⟩,?_⟩)
           refine ⟨.ay 5 (bT x0::(cl (S.drop (j+1)) i4).map bT),iG,?_⟩
           refine ⟨fun _=>by rw [List.length_set]; exact ek,[.ay 5 ((cl (S.drop (j+1)) i4).map bT)],⟨wI,tv⟩,.any,List.getElem?_set_self (by rw [List.length_map,cn]; omega),?_⟩
           refine ⟨by kernel_rfl,fun _=>⟨by simp only; omega,by simp only; omega⟩,⟨j+1,true⟩,⟨⟨rfl,rfl,rf,rf,rf,rf,rf,rfl,rf,az (by simp),tv⟩,⟨⟨rf,rf,rf,rf,rf,rf,rfl,rfl,rfl,rfl,rfl,tv⟩,⟨rfl,rfl⟩,⟨rfl,rfl⟩,⟨rfl,rfl⟩,⟨rfl,b4⟩,⟨rfl,rfl⟩,⟨rf,rf,rf,rf,rf,rf,rf,tv⟩,tv⟩,rfl,rfl⟩,⟨by simp only; omega,by simp⟩,by simp only; omega⟩
         ·have dk:j=lv:=by have:=of_decide_eq_false dk; simp only [Int.ofNat_lt] at this; omega
          subst dk
          have u4:DV.ay 1 (List.drop ((j:Int)).toNat (List.take (((s1.bL.map I).length:Nat):Int).toNat (s1.bL.map I)))=vK.iL (s1.bL.drop j):=by
           rw [Int.toNat_natCast,Int.toNat_natCast,List.take_length,←List.map_drop]; rfl
          refine .inl ⟨⟨by simp,by simp only [Option.getD_some,Option.getD_none,List.length_map,k1,k3]; omega,by simp⟩,fun _=>⟨by simp only; omega,by simp only; omega⟩,?_⟩
          refine ⟨fun _=>?_,fun h9=>by cases h9⟩
          have k7:dp s1 S j=dp s S j:=by unfold dp; rw [k2]
          obtain ⟨t1,t2,t3,t4,t5,t6⟩:=OV A it n c hA rfl
          obtain ⟨i5,rfl⟩:∃i5:Nat,it=(i5:Int):=⟨it.toNat,by omega⟩
          have t7:=im s S j i5 (by omega)
          have t8:=S6 j i5
          have t9:(cl (S.drop j) i5).length≤1000:=by
           unfold cl; rw [List.length_map]
           refine Nat.le_trans (List.length_filter_le ..) ?_
           rw [List.length_drop]; have:=h.len; omega
          have CO:bn Tryz.prog 54 [.ptr 0 0,.dv (I i5),.agg [.dv (I st.tick),.dv (I n),.dv (I c),.dv (I 0),.dv (I 0)]] 6 (vK false (df s1 S j)) 0 [] (xm false true true (qS (df s1 S j) i5 (cl (S.drop j) i5) st.tick n c)):=by
           cases Lm:(s.sl.getD i5 (true,[])).1 with
           | true =>
            have S8:cl (S.drop j) i5=[]:=lQ (by have h1:=h.OQ; have hg:=List.getElem?_eq_getElem (l:=s.sl) (i:=i5) (by omega); rw [List.getD_eq_getElem?_getD,hg] at Lm; generalize s.sl[i5]=q at hg Lm; obtain ⟨f7,l7⟩:=q; rw [←h.sl _ _ _ hg]; exact h.sf _ _ _ hg Lm) j
            rw [S8]
            exact wy _ i5 (by show (dp s1 S j)[i5]?=_; rw [k7,t7,Lm,S8]) _ _ _ ⟨by simp only [df]; omega,by simp only [df]; omega⟩ (by simp only [df,List.length_drop,k1]; omega)
           | false =>
            exact wz _ i5 _ (by show (dp s1 S j)[i5]?=_; rw [k7,t7,Lm]) _ _ _ ⟨by simp only [df]; omega,by simp only [df]; omega⟩ (by simp only [df,List.length_drop,k1]; omega) t9 ⟨t8.1,t8.2.1⟩ t8.2.2 ⟨by omega,by omega⟩ ⟨by omega,by omega⟩
          have so:lN s S st (.ok A) [.dv (I 0)] (xm false true true { qS (df s1 S j) i5 (cl (S.drop j) i5) st.tick n c with last:=st.tick }):=by
           refine ⟨done,k6,rfl,?_⟩
           rw [eZ,←k5,GZ,oE]
           have h0:cM s S st s1={ qS (df s1 S j) i5 (cl (S.drop j) i5) st.tick n c with last:=st.tick }:=by unfold cM; rw [GZ,oE]; rfl
           rw [h0]; simp
          cases hh
          ·refine .inr ⟨[0,1,2,3,4,5],[.ptr 0 0,.dv (I i5),.agg [.dv (I st.tick),.dv (I n),.dv (I c),.dv (I 0),.dv (I 0)]],vK false (df s1 S j),0,_,_,CO,by kernel_rfl,by kernel_rfl,⟨rfl,rf,⟨rf,rf,rf,rf,rf,tv⟩,tv⟩,⟨⟨rf,rf,rf,rf,rf,rf,rfl,rfl,rfl,rfl,rfl,tv⟩,⟨rfl,rfl⟩,⟨rfl,rfl⟩,⟨rfl,rfl⟩,⟨rfl,by rw [←k7]; rfl⟩,⟨rfl,u4⟩,tv⟩,?_⟩
           exact ⟨_,_,so,by kernel_rfl,⟨rf,tv⟩,⟨rf,rf,rf,rf,rf,rf,rfl,rfl,rfl,rfl,rfl,tv⟩,⟨rfl,rfl⟩,⟨rfl,rfl⟩,⟨rfl,rfl⟩,⟨rfl,rfl⟩,⟨rfl,rfl⟩,tv⟩
          ·refine .inr ⟨[0,1,2,3,4,5],[.ptr 0 0,.dv (I i5),.agg [.dv (I st.tick),.dv (I n),.dv (I c),.dv (I 0),.dv (I 0)]],vK false (df s1 S j),0,_,_,CO,by kernel_rfl,by kernel_rfl,⟨rfl,rf,⟨rf,rf,rf,rf,rf,tv⟩,tv⟩,⟨⟨rf,rf,rf,rf,rf,rf,rfl,rfl,rfl,rfl,rfl,tv⟩,⟨rfl,rfl⟩,⟨rfl,rfl⟩,⟨rfl,rfl⟩,⟨rfl,by rw [←k7]; rfl⟩,⟨rfl,u4⟩,tv⟩,?_⟩
           exact ⟨_,_,so,by kernel_rfl,⟨rf,tv⟩,⟨rf,rf,rf,rf,rf,rf,rfl,rfl,rfl,rfl,rfl,tv⟩,⟨rfl,rfl⟩,⟨rfl,rfl⟩,⟨rfl,rfl⟩,⟨rfl,rfl⟩,⟨rfl,rfl⟩,tv⟩
       ·refine .inr (.inl ⟨fun _=>⟨by simp,by simp,by simp only [k1,List.length_map,Option.getD_some]; omega⟩,?_⟩)
        refine ⟨S5,Uj s s1 S st it n c true lv true,fun z=>z.j≤lv∧z.h=decide (0<z.j),fun z=>lv - z.j,⟨0,false⟩,fun z=>by obtain ⟨z1,z2⟩:=z; cases z2 <;> rfl,?_,?_,?_⟩
        ·exact ⟨⟨rfl,rfl,rf,rf,rf,rf,rf,rfl,rf,rf,tv⟩,⟨⟨rf,rf,rf,rf,rf,rf,rfl,rfl,rfl,rfl,rfl,tv⟩,⟨rfl,rfl⟩,⟨rfl,rfl⟩,⟨rfl,rfl⟩,⟨rfl,by rw [S7]⟩,⟨rfl,rfl⟩,⟨rf,rf,rf,rf,rf,rf,rf,tv⟩,tv⟩,rfl,rfl⟩
        ·exact ⟨Nat.zero_le _,rfl⟩
        ·rintro ⟨j,hh⟩ ⟨q1,q2⟩
         simp only at q1 q2
         refine ⟨fun aK=>?_,fun dk=>?_⟩
         ·have aK:j<lv:=by have:=of_decide_eq_true aK; simp only [Int.ofNat_lt] at this; exact this
          obtain ⟨⟨i4,x0⟩,ke⟩:∃q,S[j]?=some q:=⟨_,List.getElem?_eq_getElem (by omega)⟩
          have QM:i4<4:=h.it _ (List.mem_of_getElem? ke)
          have sn:(s1.bL.map I)[0+((j:Int)).toNat]?=some (I (i4:Int)):=by rw [k1,h.bL,List.map_map,List.getElem?_map,Nat.zero_add,Int.toNat_natCast,ke]; rfl
          obtain ⟨e1,e2⟩:=oi h ke
          have iG:((dp s S j).map mD)[((i4:Int)).toNat]?=some (.ay 5 (bT x0::(cl (S.drop (j+1)) i4).map bT)):=by rw [List.getElem?_map,Int.toNat_natCast,e1]; rfl
          refine ⟨fun _=>⟨by simp only; omega,by simp only; omega⟩,I (i4:Int),fun _=>sn,?_⟩
          have ek:(0:Int)≤(i4:Int)∧(i4:Int)<(((dp s S j).map mD).length:Int):=⟨by omega,by rw [List.length_map,cn]; omega⟩
          have b4:DV.ay 1 ((((dp s S j).map mD).set ((i4:Int)).toNat .any).set ((i4:Int)).toNat (.ay 5 ((cl (S.drop (j+1)) i4).map bT)))=.ay 1 ((dp s S (j+1)).map mD):=by
           rw [List.set_set,Int.toNat_natCast,e2,List.map_set]; rfl
          have wI:DV.ay 5 (List.drop 1 (List.take ((((bT x0::(cl (S.drop (j+1)) i4).map bT).length:Nat):Int)).toNat (bT x0::(cl (S.drop (j+1)) i4).map bT)))=DV.ay 5 ((cl (S.drop (j+1)) i4).map bT):=by
           rw [Int.toNat_natCast,List.take_length]; rfl
          cases hh
          ·refine ⟨fun _=>ek,.ay 5 (bT x0::(cl (S.drop (j+1)) i4).map bT),fun _=>iG,?_⟩
           refine .inr (.inr ⟨.ay 5 (bT x0::(cl (S.drop (j+1)) i4).map bT),fun _=>iG,⟨by simp,by simp; omega,by simp⟩,?_⟩)
           refine ⟨.ay 5 (bT x0::(cl (S.drop (j+1)) i4).map bT),iG,?_⟩
           refine ⟨fun _=>by rw [List.length_set]; exact ek,[.ay 5 ((cl (S.drop (j+1)) i4).map bT)],⟨wI,tv⟩,.any,List.getElem?_set_self (by rw [List.length_map,cn]; omega),?_⟩
           refine ⟨by kernel_rfl,fun _=>⟨by simp only; omega,by simp only; omega⟩,⟨j+1,true⟩,⟨⟨rfl,rfl,rf,rf,rf,rf,rf,rfl,rf,az (by simp),tv⟩,⟨⟨rf,rf,rf,rf,rf,rf,rfl,rfl,rfl,rfl,rfl,tv⟩,⟨rfl,rfl⟩,⟨rfl,rfl⟩,⟨rfl,rfl⟩,⟨rfl,b4⟩,⟨rfl,rfl⟩,⟨rf,rf,rf,rf,rf,rf,rf,tv⟩,tv⟩,rfl,rfl⟩,⟨by simp only; omega,by simp⟩,by simp only; omega⟩
          ·refine ⟨fun _=>ek,.ay 5 (bT x0::(cl (S.drop (j+1)) i4).map bT),fun _=>iG,?_⟩
           refine .inr (.inr ⟨.ay 5 (bT x0::(cl (S.drop (j+1)) i4).map bT),fun _=>iG,⟨by simp,by simp; omega,by simp⟩,?_⟩)
           refine ⟨.ay 5 (bT x0::(cl (S.drop (j+1)) i4).map bT),iG,?_⟩
           refine ⟨fun _=>by rw [List.length_set]; exact ek,[.ay 5 ((cl (S.drop (j+1)) i4).map bT)],⟨wI,tv⟩,.any,List.getElem?_set_self (by rw [List.length_map,cn]; omega),?_⟩
           refine ⟨by kernel_rfl,fun _=>⟨by simp only; omega,by simp only; omega⟩,⟨j+1,true⟩,⟨⟨rfl,rfl,rf,rf,rf,rf,rf,rfl,rf,az (by simp),tv⟩,⟨⟨rf,rf,rf,rf,rf,rf,rfl,rfl,rfl,rfl,rfl,tv⟩,⟨rfl,rfl⟩,⟨rfl,rfl⟩,⟨rfl,rfl⟩,⟨rfl,b4⟩,⟨rfl,rfl⟩,⟨rf,rf,rf,rf,rf,rf,rf,tv⟩,tv⟩,rfl,rfl⟩,⟨by simp only; omega,by simp⟩,by simp only; omega⟩
         ·have dk:j=lv:=by have:=of_decide_eq_false dk; simp only [Int.ofNat_lt] at this; omega
          subst dk
          have u4:DV.ay 1 (List.drop ((j:Int)).toNat (List.take (((s1.bL.map I).length:Nat):Int).toNat (s1.bL.map I)))=vK.iL (s1.bL.drop j):=by
           rw [Int.toNat_natCast,Int.toNat_natCast,List.take_length,←List.map_drop]; rfl
          refine .inl ⟨⟨by simp,by simp only [Option.getD_some,Option.getD_none,List.length_map,k1,k3]; omega,by simp⟩,fun _=>⟨by simp only; omega,by simp only; omega⟩,?_⟩
          refine ⟨fun _=>?_,fun h9=>by cases h9⟩
          have k7:dp s1 S j=dp s S j:=by unfold dp; rw [k2]
          obtain ⟨t1,t2,t3,t4,t5,t6⟩:=OV A it n c hA rfl
          obtain ⟨i5,rfl⟩:∃i5:Nat,it=(i5:Int):=⟨it.toNat,by omega⟩
          have t7:=im s S j i5 (by omega)
          have t8:=S6 j i5
          have t9:(cl (S.drop j) i5).length≤1000:=by
           unfold cl; rw [List.length_map]
           refine Nat.le_trans (List.length_filter_le ..) ?_
           rw [List.length_drop]; have:=h.len; omega
          have CO:bn Tryz.prog 54 [.ptr 0 0,.dv (I i5),.agg [.dv (I st.tick),.dv (I n),.dv (I c),.dv (I 0),.dv (I 0)]] 6 (vK false (df s1 S j)) 0 [] (xm false true true (qS (df s1 S j) i5 (cl (S.drop j) i5) st.tick n c)):=by
           cases Lm:(s.sl.getD i5 (true,[])).1 with
           | true =>
            have S8:cl (S.drop j) i5=[]:=lQ (by have h1:=h.OQ; have hg:=List.getElem?_eq_getElem (l:=s.sl) (i:=i5) (by omega); rw [List.getD_eq_getElem?_getD,hg] at Lm; generalize s.sl[i5]=q at hg Lm; obtain ⟨f7,l7⟩:=q; rw [←h.sl _ _ _ hg]; exact h.sf _ _ _ hg Lm) j
            rw [S8]
            exact wy _ i5 (by show (dp s1 S j)[i5]?=_; rw [k7,t7,Lm,S8]) _ _ _ ⟨by simp only [df]; omega,by simp only [df]; omega⟩ (by simp only [df,List.length_drop,k1]; omega)
           | false =>
            exact wz _ i5 _ (by show (dp s1 S j)[i5]?=_; rw [k7,t7,Lm]) _ _ _ ⟨by simp only [df]; omega,by simp only [df]; omega⟩ (by simp only [df,List.length_drop,k1]; omega) t9 ⟨t8.1,t8.2.1⟩ t8.2.2 ⟨by omega,by omega⟩ ⟨by omega,by omega⟩
          have so:lN s S st (.ok A) [.dv (I 0)] (xm true true true { qS (df s1 S j) i5 (cl (S.drop j) i5) st.tick n c with last:=st.tick }):=by
           refine ⟨done,k6,rfl,?_⟩
           rw [eZ,←k5,GZ,oE]
           have h0:cM s S st s1={ qS (df s1 S j) i5 (cl (S.drop j) i5) st.tick n c with last:=st.tick }:=by unfold cM; rw [GZ,oE]; rfl
           rw [h0]; simp
          cases hh
          ·refine .inr ⟨[0,1,2,3,4,5],[.ptr 0 0,.dv (I i5),.agg [.dv (I st.tick),.dv (I n),.dv (I c),.dv (I 0),.dv (I 0)]],vK false (df s1 S j),0,_,_,CO,by kernel_rfl,by kernel_rfl,⟨rfl,rf,⟨rf,rf,rf,rf,rf,tv⟩,tv⟩,⟨⟨rf,rf,rf,rf,rf,rf,rfl,rfl,rfl,rfl,rfl,tv⟩,⟨rfl,rfl⟩,⟨rfl,rfl⟩,⟨rfl,rfl⟩,⟨rfl,by rw [←k7]; rfl⟩,⟨rfl,u4⟩,tv⟩,?_⟩
           exact ⟨_,_,so,by kernel_rfl,⟨rf,tv⟩,⟨rf,rf,rf,rf,rf,rf,rfl,rfl,rfl,rfl,rfl,tv⟩,⟨rfl,rfl⟩,⟨rfl,rfl⟩,⟨rfl,rfl⟩,⟨rfl,rfl⟩,⟨rfl,rfl⟩,tv⟩
          ·refine .inr ⟨[0,1,2,3,4,5],[.ptr 0 0,.dv (I i5),.agg [.dv (I st.tick),.dv (I n),.dv (I c),.dv (I 0),.dv (I 0)]],vK false (df s1 S j),0,_,_,CO,by kernel_rfl,by kernel_rfl,⟨rfl,rf,⟨rf,rf,rf,rf,rf,tv⟩,tv⟩,⟨⟨rf,rf,rf,rf,rf,rf,rfl,rfl,rfl,rfl,rfl,tv⟩,⟨rfl,rfl⟩,⟨rfl,rfl⟩,⟨rfl,rfl⟩,⟨rfl,by rw [←k7]; rfl⟩,⟨rfl,u4⟩,tv⟩,?_⟩
           exact ⟨_,_,so,by kernel_rfl,⟨rf,tv⟩,⟨rf,rf,rf,rf,rf,rf,rfl,rfl,rfl,rfl,rfl,tv⟩,⟨rfl,rfl⟩,⟨rfl,rfl⟩,⟨rfl,rfl⟩,⟨rfl,rfl⟩,⟨rfl,rfl⟩,tv⟩
      ·simp only at iA
       rw [List.getElem?_map] at iA
       obtain ⟨⟨k,x⟩,hk,rfl⟩:∃p,left[pos]?=some p∧cc=pT p:=by
        cases hq:left[pos]? with
        | none=>rw [hq] at iA; cases iA
        | some p=>rw [hq] at iA; exact ⟨p,rfl,by simpa using iA.symm⟩
       refine ⟨lO x,?_⟩
       have Be:(done++(k,x)::left.eraseIdx pos).Perm A:=((pH hk).append_left done).symm.trans g1
       obtain ⟨ii,bJ,VL⟩:=iU A hA done k x _ Be
       have cL:=Cx (aJ s done) k ii x bJ
       have Cq:cG (aJ s done) k ii x=aJ s (done++[(k,x)]):=by
        unfold aJ; rw [List.foldl_append]; show cG _ k ii x=cG _ k k.2.toNat x
        rw [show k.2.toNat=ii by have:=bJ.it; omega]
       rw [Cq,VL] at cL
       have sM:fF s (done++[(k,x)])=(f || cx s k x):=by unfold fF; rw [List.any_append,g2]; simp [fF]
       cases f
       ·cases Ll:cx s k x
        ·rw [Ll] at cL sM
         refine .inr ⟨[0,1,2,3,4,5],[.ptr 0 0,.agg [.dv (I k.1),.dv (I k.2)],.dv (I x)],vK false (aJ s done),0,_,_,cL,by kernel_rfl,by kernel_rfl,⟨rfl,⟨rf,rf,tv⟩,rf,tv⟩,⟨⟨rf,rf,rf,rf,rf,rf,rfl,rfl,rfl,rfl,rfl,tv⟩,⟨rfl,rfl⟩,⟨rfl,rfl⟩,⟨rfl,rfl⟩,⟨rfl,rfl⟩,⟨rfl,rfl⟩,tv⟩,?_⟩
         exact ⟨⟨left.eraseIdx pos,done++[(k,x)],false⟩,⟨⟨rfl,rfl,rf,rf,rf,rf,rf,rfl,tv⟩,⟨⟨rf,rf,rf,rf,rf,rf,rfl,rfl,rfl,rfl,rfl,tv⟩,⟨rfl,rfl⟩,⟨rfl,rfl⟩,⟨rfl,rfl⟩,⟨rfl,rfl⟩,⟨rfl,rfl⟩,⟨rf,rf,rf,rf,rf,rf,rf,tv⟩,tv,⟨rfl,rfl,rfl,cP _ _,.inl rfl,tv⟩,tv⟩,rfl,rfl⟩,⟨by simp only [List.append_assoc]; exact Be,sM.symm⟩,by simp only; have:=eE hk; omega⟩
        ·rw [Ll] at cL sM
         refine .inr ⟨[0,1,2,3,4,5],[.ptr 0 0,.agg [.dv (I k.1),.dv (I k.2)],.dv (I x)],vK false (aJ s done),0,_,_,cL,by kernel_rfl,by kernel_rfl,⟨rfl,⟨rf,rf,tv⟩,rf,tv⟩,⟨⟨rf,rf,rf,rf,rf,rf,rfl,rfl,rfl,rfl,rfl,tv⟩,⟨rfl,rfl⟩,⟨rfl,rfl⟩,⟨rfl,rfl⟩,⟨rfl,rfl⟩,⟨rfl,rfl⟩,tv⟩,?_⟩
         exact ⟨⟨left.eraseIdx pos,done++[(k,x)],true⟩,⟨⟨rfl,rfl,rf,rf,rf,rf,rf,rfl,tv⟩,⟨⟨rf,rf,rf,rf,rf,rf,rfl,rfl,rfl,rfl,rfl,tv⟩,⟨rfl,rfl⟩,⟨rfl,rfl⟩,⟨rfl,rfl⟩,⟨rfl,rfl⟩,⟨rfl,rfl⟩,⟨rf,rf,rf,rf,rf,rf,rf,tv⟩,tv,⟨rfl,rfl,rfl,cP _ _,.inl rfl,tv⟩,tv⟩,rfl,rfl⟩,⟨by simp only [List.append_assoc]; exact Be,sM.symm⟩,by simp only; have:=eE hk; omega⟩
       ·cases Ll:cx s k x
        ·rw [Ll] at cL sM
         refine .inr ⟨[0,1,2,3,4,5],[.ptr 0 0,.agg [.dv (I k.1),.dv (I k.2)],.dv (I x)],vK false (aJ s done),0,_,_,cL,by kernel_rfl,by kernel_rfl,⟨rfl,⟨rf,rf,tv⟩,rf,tv⟩,⟨⟨rf,rf,rf,rf,rf,rf,rfl,rfl,rfl,rfl,rfl,tv⟩,⟨rfl,rfl⟩,⟨rfl,rfl⟩,⟨rfl,rfl⟩,⟨rfl,rfl⟩,⟨rfl,rfl⟩,tv⟩,?_⟩
         exact ⟨⟨left.eraseIdx pos,done++[(k,x)],true⟩,⟨⟨rfl,rfl,rf,rf,rf,rf,rf,rfl,tv⟩,⟨⟨rf,rf,rf,rf,rf,rf,rfl,rfl,rfl,rfl,rfl,tv⟩,⟨rfl,rfl⟩,⟨rfl,rfl⟩,⟨rfl,rfl⟩,⟨rfl,rfl⟩,⟨rfl,rfl⟩,⟨rf,rf,rf,rf,rf,rf,rf,tv⟩,tv,⟨rfl,rfl,rfl,cP _ _,.inl rfl,tv⟩,tv⟩,rfl,rfl⟩,⟨by simp only [List.append_assoc]; exact Be,sM.symm⟩,by simp only; have:=eE hk; omega⟩
        ·rw [Ll] at cL sM
         refine .inr ⟨[0,1,2,3,4,5],[.ptr 0 0,.agg [.dv (I k.1),.dv (I k.2)],.dv (I x)],vK false (aJ s done),0,_,_,cL,by kernel_rfl,by kernel_rfl,⟨rfl,⟨rf,rf,tv⟩,rf,tv⟩,⟨⟨rf,rf,rf,rf,rf,rf,rfl,rfl,rfl,rfl,rfl,tv⟩,⟨rfl,rfl⟩,⟨rfl,rfl⟩,⟨rfl,rfl⟩,⟨rfl,rfl⟩,⟨rfl,rfl⟩,tv⟩,?_⟩
         exact ⟨⟨left.eraseIdx pos,done++[(k,x)],true⟩,⟨⟨rfl,rfl,rf,rf,rf,rf,rf,rfl,tv⟩,⟨⟨rf,rf,rf,rf,rf,rf,rfl,rfl,rfl,rfl,rfl,tv⟩,⟨rfl,rfl⟩,⟨rfl,rfl⟩,⟨rfl,rfl⟩,⟨rfl,rfl⟩,⟨rfl,rfl⟩,⟨rf,rf,rf,rf,rf,rf,rf,tv⟩,tv,⟨rfl,rfl,rfl,cP _ _,.inl rfl,tv⟩,tv⟩,rfl,rfl⟩,⟨by simp only [List.append_assoc]; exact Be,sM.symm⟩,by simp only; have:=eE hk; omega⟩
    ·simp only at iA
     rw [List.getElem?_map] at iA
     obtain ⟨⟨k,x⟩,hk,rfl⟩:∃p,left[pos]?=some p∧cc=pT p:=by
      cases hq:left[pos]? with
      | none=>rw [hq] at iA; cases iA
      | some p=>rw [hq] at iA; exact ⟨p,rfl,by simpa using iA.symm⟩
     refine ⟨lO x,?_⟩
     refine ⟨gz,ug k,rfl,rfl,I (hv s.H k),(bm s.H k).isSome,fun _=>CB s.H k,GU s.H k,rfl,?_⟩
     refine ⟨by kernel_rfl,?_⟩
     repeat first | refine ⟨id,?_⟩ | refine ⟨fun _ h=>cf h,?_⟩ | refine ⟨fun _ h=>ax h,?_⟩ | refine ⟨fun h=>⟨h,fun h2=>aQ h h2⟩,?_⟩ | refine ⟨fun h=>⟨h,fun h2=>aD h h2⟩,?_⟩
     have DW:=pG s.H hk
     have hle:=eE hk
     refine ⟨fun hq=>?_,fun hq=>?_⟩
     ·have hd:CM s.H (k,x)=1:=by
       show (bif (bif hv s.H k == 0 then x != 0 else false) then (1:Int) else _)=1
       rw [show (bif hv s.H k == 0 then x != 0 else false)=true from hq]; rfl
      have h0:hv s.H k=0:=by
       cases hz:(hv s.H k == 0) with
       | true=>simpa using hz
       | false=>rw [hz] at hq; cases hq
      refine ⟨fun _=>⟨by simp only; omega,by simp only; omega⟩,?_⟩
      repeat first | refine ⟨id,?_⟩ | refine ⟨fun _ h=>cf h,?_⟩ | refine ⟨fun _ h=>ax h,?_⟩ | refine ⟨fun h=>⟨h,fun h2=>aQ h h2⟩,?_⟩ | refine ⟨fun h=>⟨h,fun h2=>aD h h2⟩,?_⟩
      refine ⟨fun hr=>absurd hr (by rw [h0]; simp),fun _=>?_⟩
      exact ⟨⟨left.eraseIdx pos,sz+1⟩,⟨⟨rfl,rfl,rfl,rf,rf,rf,rf,rf,rf,rfl,tv⟩,⟨⟨rf,rf,rf,rf,rf,rf,rfl,rfl,rfl,rfl,rfl,tv⟩,⟨rfl,rfl⟩,⟨rfl,rfl⟩,⟨rfl,rfl⟩,⟨rfl,rfl⟩,⟨rfl,rfl⟩,⟨rf,rf,rf,rf,rf,rf,rf,tv⟩,tv,⟨rfl,rfl,rfl,cP _ _,.inl rfl,tv⟩,tv⟩,rfl,rfl⟩,⟨by simp only; omega,by simp only; omega,by simp only; omega,by simp only; omega⟩,by simp only; omega⟩
     ·repeat first | refine ⟨id,?_⟩ | refine ⟨fun _ h=>cf h,?_⟩ | refine ⟨fun _ h=>ax h,?_⟩ | refine ⟨fun h=>⟨h,fun h2=>aQ h h2⟩,?_⟩ | refine ⟨fun h=>⟨h,fun h2=>aD h h2⟩,?_⟩
      refine ⟨fun hr=>?_,fun hr=>?_⟩
      ·have hd:CM s.H (k,x)=-1:=by
        show (bif (bif hv s.H k == 0 then x != 0 else false) then (1:Int) else bif (bif hv s.H k != 0 then x == 0 else false) then -1 else 0)=-1
        rw [show (bif hv s.H k == 0 then x != 0 else false)=false from hq,show (bif hv s.H k != 0 then x == 0 else false)=true from hr]; rfl
       refine ⟨fun _=>⟨by simp only; omega,by simp only; omega⟩,?_⟩
       exact ⟨⟨left.eraseIdx pos,sz - 1⟩,⟨⟨rfl,rfl,rfl,rf,rf,rf,rf,rf,rf,rfl,tv⟩,⟨⟨rf,rf,rf,rf,rf,rf,rfl,rfl,rfl,rfl,rfl,tv⟩,⟨rfl,rfl⟩,⟨rfl,rfl⟩,⟨rfl,rfl⟩,⟨rfl,rfl⟩,⟨rfl,rfl⟩,⟨rf,rf,rf,rf,rf,rf,rf,tv⟩,tv,⟨rfl,rfl,rfl,cP _ _,.inl rfl,tv⟩,tv⟩,rfl,rfl⟩,⟨by simp only; omega,by simp only; omega,by simp only; omega,by simp only; omega⟩,by simp only; omega⟩
      ·have hd:CM s.H (k,x)=0:=by
        show (bif (bif hv s.H k == 0 then x != 0 else false) then (1:Int) else bif (bif hv s.H k != 0 then x == 0 else false) then -1 else 0)=0
        rw [show (bif hv s.H k == 0 then x != 0 else false)=false from hq,show (bif hv s.H k != 0 then x == 0 else false)=false from hr]; rfl
       exact ⟨⟨left.eraseIdx pos,sz⟩,⟨⟨rfl,rfl,rfl,rf,rf,rf,rf,rf,rf,rfl,tv⟩,⟨⟨rf,rf,rf,rf,rf,rf,rfl,rfl,rfl,rfl,rfl,tv⟩,⟨rfl,rfl⟩,⟨rfl,rfl⟩,⟨rfl,rfl⟩,⟨rfl,rfl⟩,⟨rfl,rfl⟩,⟨rf,rf,rf,rf,rf,rf,rf,tv⟩,tv,⟨rfl,rfl,rfl,cP _ _,.inl rfl,tv⟩,tv⟩,rfl,rfl⟩,⟨by simp only; omega,by simp only; omega,by simp only; omega,by simp only; omega⟩,by simp only; omega⟩
end Go.Proofs.YtpbdohkbiklflaaGreatDoor
