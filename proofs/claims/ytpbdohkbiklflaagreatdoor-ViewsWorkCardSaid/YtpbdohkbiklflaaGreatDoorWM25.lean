import Derived.Test.YtpbdohkbiklflaaGreatDoorWM23
set_option linter.unusedVariables false
set_option linter.unusedSimpArgs false
set_option linter.unusedSectionVars false
namespace Go.Proofs.YtpbdohkbiklflaaGreatDoor
open Go.TM
variable [cZ]
set_option maxRecDepth 100000
def aI (s:Vs) (es:HM):Vs:=es.foldl (fun s e=>cF s e.1 e.1.2.toNat e.2) s
def Cj (H:HM) (e:Ky × Int):Int:=bif bif decide (hv H e.1=0) then !(decide (e.2=0)) else false then 1 else bif bif !(decide (hv H e.1=0)) then decide (e.2=0) else false then -1 else 0
def iG (H:HM) (es:HM):Int:=(es.map (Cj H)).foldr (·+·) 0
def fC (s:Vs) (es:HM):Bool:=es.any fun e=>cu s e.1 e.2
def dp (s:Vs) (S:SS) (j:Nat):List (Bool × List Sl):=(List.range 4).map fun i=>((s.sl.getD i (true,[])).1,ck (S.drop j) i)
def df (s:Vs) (S:SS) (lv:Nat):Vs:={ s with sl:=dp s S lv,bQ:=s.bQ.drop lv,work:=s.work+lv }
def MM (s:Vs) (S:SS) (lv:Nat) (UR:Bool) (it:Nat) (tick n c:Int):Vs :=
 let s2:=df s S lv
 let s3:=bif UR then qH s2 it (ck (S.drop lv) it) tick n c else s2
 {s3 with last:=tick }
inductive Tu where
 | err (e:Int)
 | ok (A:HM)
def Kv (s:Vs) (S:SS) (st:St):Int:=(s.H.length:Int)+(s.bQ.length:Int) - (dw S (st.tick - s.ab):Int)+(bif (bD s.coin st).2.2.2 then 1 else 0)
def eS (s:Vs) (S:SS) (st:St):Tu :=
 if (bif decide (st.tick<s.last) then true else decide (1099511627776<st.tick))=true then .err 1 else
 match ko s.H [] st.mv with
 | .err e=>.err e
 | .ok A=>if s.aC<Kv s S st+iG s.H A then .err 22 else .ok A
def cL (s:Vs) (S:SS) (st:St) (s1:Vs):Vs:=MM s1 S (dw S (st.tick - s.ab)) (bD s.coin st).2.2.2 (bD s.coin st).1.toNat st.tick (bD s.coin st).2.1 (bD s.coin st).2.2.1
def lL (s:Vs) (S:SS) (st:St):Tu→List AV→ah→Prop
 | .err e,rs,k=>rs=[.dv (I e)]∧k=vK false s
 | .ok A,rs,k=>∃done:HM,done.Perm A∧rs=[.dv (I 0)]∧k=wV (fC s A) (decide (0<dw S (st.tick - s.ab)) || (bD s.coin st).2.2.2) true (cL s S st (aI s done))
def US (st:St):ao:=.cells [.dv (I st.id),.dv (I st.kind),.dv (I st.Gk),.dv (I st.tick),.dv (I st.ME),.dv (I st.times),.dv (Ad st.mv)]
theorem lM (x:Int):(I x).bC:=by
 intro d hd
 simp [DV.cells] at hd; subst hd; rfl
theorem cN {α β:Type} {f:α→β}:∀(l:List α) (i:Nat),(l.map f).eraseIdx i=(l.eraseIdx i).map f
 | [],_=>rfl
 | _::_,0=>rfl
 | x::l,i+1=>by simp only [List.map_cons,List.eraseIdx_cons_succ]; rw [cN l i]
theorem po (H:HM) {e:Ky × Int}:∀{l:HM} {i:Nat},l[i]?=some e→iG H l=Cj H e+iG H (l.eraseIdx i)
 | [],_,h=>by simp at h
 | x::l,0,h=>by simp at h; subst h; rfl
 | x::l,i+1,h=>by
  have:=po H (l:=l) (i:=i) (by simpa using h)
  show Cj H x+iG H l=Cj H e+(Cj H x+iG H (l.eraseIdx i))
  omega
theorem eD {α:Type} {l:List α} {i:Nat} {e:α} (h:l[i]?=some e):(l.eraseIdx i).length+1=l.length:=by
 have:=(List.getElem?_eq_some_iff.1 h).1
 rw [List.length_eraseIdx,if_pos this]; omega
structure UT where
 left:HM
 sz:Int
def Wf (s:Vs) (st:St) (A:HM) (it n c:Int) (b:Bool) (lv:Nat) (z:UT):br:=⟨10,[(0,.ptr 0 0),(3,.ptr 6 0),(5,.own 8 0 0 []),(7,.dv (I it)),(8,.dv (I n)),(9,.dv (I c)),(10,.dv (B b)),(11,.dv (I lv)),(12,.dv (I z.sz)),(62,.ptr 9 0)],vK false s++[(6,US st),(8,.held),(9,.iZ 8 [] (.omap eg (A.map qF)) (z.left.map qF) none)]⟩
theorem HC (s:Vs) (k:Ky) (i:Nat) (x:Int):(cF s k i x).bQ=s.bQ:=by
 unfold cF; split <;> (try rfl) <;> (simp only; split <;> rfl)
theorem MN (s:Vs) (k:Ky) (i:Nat) (x:Int):(cF s k i x).sl=s.sl:=by
 unfold cF; split <;> (try rfl) <;> (simp only; split <;> rfl)
theorem jH (s:Vs) (es:HM):(aI s es).bQ=s.bQ:=by
 unfold aI
 induction es generalizing s with
 | nil=>rfl
 | cons e r ih=>rw [List.foldl_cons,ih,HC]
theorem nu (s:Vs) (es:HM):(aI s es).sl=s.sl:=by
 unfold aI
 induction es generalizing s with
 | nil=>rfl
 | cons e r ih=>rw [List.foldl_cons,ih,MN]
theorem n5 (s:Vs) (k:Ky) (i:Nat) (x:Int):s.work≤(cF s k i x).work∧(cF s k i x).work≤s.work+1:=by
 unfold cF; split
 ·omega
 ·simp only; split <;> (simp only; omega)
theorem lN (s:Vs) (es:HM):s.work≤(aI s es).work∧(aI s es).work≤s.work+es.length:=by
 unfold aI
 induction es generalizing s with
 | nil=>simp
 | cons e r ih =>
  rw [List.foldl_cons]
  have h1:=ih (cF s e.1 e.1.2.toNat e.2)
  have h2:=n5 s e.1 e.1.2.toNat e.2
  simp only [List.length_cons]
  omega
theorem Ck {α:Type} {l r:List α} (h:l.Perm r) (p:α→Bool):l.any p=r.any p:=by
 induction h with
 | nil=>rfl
 | cons x _ ih=>simp [ih]
 | swap x y l=>simp [Bool.or_left_comm]
 | trans _ _ X2 X3=>exact X2.trans X3
theorem Kw {a b:List (Bool × List Sl)} (ha:a.length=4) (hb:b.length=4) (h:∀i,i<4→a[i]?=b[i]?):a=b:=by
 apply List.ext_getElem?
 intro i
 rcases Nat.lt_or_ge i 4 with h4 | h4
 ·exact h i h4
 ·rw [List.getElem?_eq_none (by omega),List.getElem?_eq_none (by omega)]
theorem cl (s:Vs) (S:SS) (j:Nat):(dp s S j).length=4:=by simp [dp]
theorem il (s:Vs) (S:SS) (j i:Nat) (hi:i<4):(dp s S j)[i]?=some ((s.sl.getD i (true,[])).1,ck (S.drop j) i):=by
 unfold dp; rw [List.getElem?_map,List.getElem?_range hi]; rfl
theorem yq {s:Vs} {S:SS} (h:nZ s S):dp s S 0=s.sl:=by
 refine Kw (cl ..) h.Oc fun i hi=>?_
 rw [il _ _ _ _ hi]
 have hl:i<s.sl.length:=by rw [h.Oc]; exact hi
 have hx:=List.getElem?_eq_getElem hl
 rw [List.getD_eq_getElem?_getD,hx]
 generalize s.sl[i]=q at hx
 obtain ⟨f,l⟩:=q
 have:=h.sl _ _ _ hx
 rw [this]; rfl
theorem wc {S:SS} {j i:Nat} {x:Sl} (h:S[j]?=some (i,x)) (k:Nat):ck (S.drop j) k=if i=k then x::ck (S.drop (j+1)) k else ck (S.drop (j+1)) k:=by
 have aJ:=(List.getElem?_eq_some_iff.1 h).1
 have aA:S.drop j=(i,x)::S.drop (j+1):=by rw [List.drop_eq_getElem_cons aJ]; congr 1; rw [List.getElem?_eq_getElem aJ] at h; injection h
 rw [aA]
 unfold ck
 by_cases hk:i=k
 ·subst hk; simp
 ·simp [hk]
theorem n6 {s:Vs} {S:SS} (h:nZ s S) {j i:Nat} {x:Sl} (hx:S[j]?=some (i,x)):(dp s S j)[i]?=some (false,x::ck (S.drop (j+1)) i)∧dp s S (j+1)=(dp s S j).set i (false,ck (S.drop (j+1)) i):=by
 have P7:i<4:=h.it _ (List.mem_of_getElem? hx)
 have hl:i<s.sl.length:=by rw [h.Oc]; exact P7
 have hg:=List.getElem?_eq_getElem hl
 have hf:(s.sl.getD i (true,[])).1=false:=by
  rw [List.getD_eq_getElem?_getD,hg]
  generalize s.sl[i]=q at hg
  obtain ⟨f,l⟩:=q
  cases f with
  | false=>rfl
  | true =>
   have h1:=h.sl _ _ _ hg
   rw [h.sf _ _ _ hg rfl] at h1
   have h2:=wc hx i
   have hm:x∈ck S i:=by
    unfold ck
    exact List.mem_map.2 ⟨(i,x),List.mem_filter.2 ⟨List.mem_of_getElem? hx,by simp⟩,rfl⟩
   rw [←h1] at hm
   cases hm
 constructor
 ·rw [il _ _ _ _ P7,hf,wc hx,if_pos rfl]
 ·refine Kw (cl ..) (by rw [List.length_set]; exact cl ..) fun k hk=>?_
  rw [il _ _ _ _ hk]
  by_cases ye:i=k
  ·subst ye
   rw [List.getElem?_set_self (by rw [cl]; exact P7),hf]
  ·rw [List.getElem?_set_ne ye,il _ _ _ _ hk,wc hx,if_neg ye]
structure UU where
 left:HM
 done:HM
 f:Bool
theorem pq {α:Type}:∀{l:List α} {i:Nat} {x:α},l[i]?=some x→l.Perm (x::l.eraseIdx i)
 | [],i,x,h=>by simp at h
 | y::l,0,x,h=>by simp at h; subst h; simp
 | y::l,i+1,x,h=>by
  simp only [List.getElem?_cons_succ] at h
  simp only [List.eraseIdx_cons_succ]
  exact ((pq h).cons y).trans (List.Perm.swap x y _)
def Wg (s:Vs) (st:St) (A:HM) (it n c:Int) (b:Bool) (lv:Nat) (z:UU):br:=⟨11,[(0,.ptr 0 0),(3,.ptr 6 0),(7,.dv (I it)),(8,.dv (I n)),(9,.dv (I c)),(10,.dv (B b)),(11,.dv (I lv)),(97,.ptr 10 0)],vK z.f (aI s z.done)++[(6,US st),(8,.held),(10,.iZ 8 [] (.omap eg (A.map qF)) (z.left.map qF) none)]⟩
structure Sj where
 j:Nat
 h:Bool
def Tv (s s1:Vs) (S:SS) (st:St) (it n c:Int) (b:Bool) (lv:Nat) (f:Bool) (z:Sj):br:=⟨11,[(0,.ptr 0 0),(3,.ptr 6 0),(7,.dv (I it)),(8,.dv (I n)),(9,.dv (I c)),(10,.dv (B b)),(11,.dv (I lv)),(112,.pre 5 0 0 [] 1 0 lv),(113,.dv (I lv)),(114,.dv (I z.j))],wV f z.h false { s1 with sl:=dp s S z.j }++[(6,US st)]⟩
theorem we (m:HM) (k:Ky) (x:Int):(bM m k x).length≤m.length+1:=by
 induction m with
 | nil=>simp [bM]
 | cons p r ih =>
  simp only [bM]
  split
  ·simp
  ·simp only [List.length_cons]; omega
theorem qL {H:HM}:∀{l:List Mv} {m A:HM},ko H m l=.ok A→A.length≤m.length+2 * l.length
 | [],m,A,h=>by simp only [ko] at h; injection h with h; subst h; simp
 | v::r,m,A,h=>by
  simp only [ko] at h
  split at h
  ·cases h
  have hp:∀m1:HM,(if v.t ≠ 0 then bM m1 (v.t,v.it) (hold m1 H (v.t,v.it)+v.n) else m1).length≤m1.length+1:=by
   intro m1; split
   ·exact we ..
   ·omega
  split at h
  ·split at h
   ·cases h
   ·have h1:=qL h
    have h2:=hp (bM m (v.f,v.it) (hold m H (v.f,v.it) - v.n))
    have h3:=we m (v.f,v.it) (hold m H (v.f,v.it) - v.n)
    simp only [List.length_cons]
    omega
  ·have h1:=qL h
   have h2:=hp m
   simp only [List.length_cons]
   omega
theorem Aj {H:HM}:∀{l:List Mv} {m:HM} {e:Int},ko H m l=.err e→e ≠ 0
 | [],m,e,h=>by simp only [ko] at h; cases h
 | v::r,m,e,h=>by
  simp only [ko] at h
  split at h
  ·injection h with h; omega
  split at h
  ·split at h
   ·injection h with h; omega
   ·exact Aj h
  ·exact Aj h
theorem lO {S:SS} {i:Nat} (h:ck S i=[]) (j:Nat):ck (S.drop j) i=[]:=by
 cases hq:ck (S.drop j) i with
 | nil=>rfl
 | cons x r =>
  have hm:x∈ck (S.drop j) i:=by rw [hq]; exact List.mem_cons_self
  unfold ck at hm
  obtain ⟨p,h1,h2⟩:=List.mem_map.1 hm
  obtain ⟨h3,h4⟩:=List.mem_filter.1 h1
  have h5:x∈ck S i:=by
   unfold ck
   exact List.mem_map.2 ⟨p,List.mem_filter.2 ⟨List.mem_of_mem_drop h3,h4⟩,h2⟩
  rw [h] at h5; cases h5
set_option maxHeartbeats 4000000 in
theorem HD (s:Vs) (S:SS) (h:nZ s S) (st:St) (hl:st.mv.length≤1000) (hH:∀k,0≤hv s.H k∧hv s.H k≤1152921504606846976) (aT:s.H.length≤100000) (hw:1≤s.ab∧s.ab≤1099511627776) (pY:0≤s.last) (Sk:0≤s.work∧s.work≤1152921504606846976) (Sm:∀j i,0≤iV (ck (S.drop j) i)∧iV (ck (S.drop j) i)≤1152921504606846976∧0≤iW (ck (S.drop j) i)∧iW (ck (S.drop j) i)≤1152921504606846976)
  (Of:∀A it n c,ko s.H [] st.mv=.ok A→bD s.coin st=(it,n,c,true)→0≤it∧it<4∧1≤n∧n≤1099511627776∧1≤c∧c≤1099511627776)
  (iR:∀A,ko s.H [] st.mv=.ok A→∀done k now left,(done++(k,now)::left).Perm A→∃i:Nat,Kj (aI s done) k i now∧cu (aI s done) k now=cu s k now) :
  dJ Tryz.prog 21 [.ptr 0 0,Es st] 6 (vK false s) 9 (lL s S st (eS s S st)):=by
 refine xQ aO mixed (aq _) (ar _) Tryz.func21 rfl rfl (by kernel_rfl) ?_
 repeat first | refine ⟨id,?_⟩ | refine ⟨fun _ h=>cx h,?_⟩ | refine ⟨fun _ h=>ay h,?_⟩ | refine ⟨fun h=>⟨h,fun h2=>aQ h h2⟩,?_⟩ | refine ⟨fun h=>⟨h,fun h2=>aF h h2⟩,?_⟩
 refine ⟨by kernel_rfl,fun hc=>?_,fun hc=>?_⟩
 ·have hr:eS s S st=.err 1:=by unfold eS; rw [if_pos hc]
  rw [hr]
  exact ⟨_,_,⟨rfl,rfl⟩,by kernel_rfl,⟨rf,tv⟩,⟨rf,rf,rf,rf,rf,rf,rfl,rfl,rfl,rfl,rfl,tv⟩,⟨rfl,rfl⟩,⟨rfl,rfl⟩,⟨rfl,rfl⟩,⟨rfl,rfl⟩,⟨rfl,rfl⟩,tv⟩
 have Hy:s.last≤st.tick∧st.tick≤1099511627776:=by
  simp only [Bool.cond_true_left,Bool.or_eq_false_iff,decide_eq_false_iff_not] at hc; omega
 have Tw:=Ac s S h st.tick (by omega)
 have X4:=yj s (by rw [h.bQ,List.length_map]; have:=h.len; omega)
 have wN:=MF s st.mv hl hH
 have qY:eS s S st=match ko s.H [] st.mv with
  | .err e=>.err e
  | .ok A=>if s.aC<Kv s S st+iG s.H A then .err 22 else .ok A:=by
  unfold eS; rw [if_neg (by rw [hc]; simp)]
 cases hA:ko s.H [] st.mv with
 | err e =>
  rw [hA] at wN qY
  simp only at qY
  have L2:e ≠ 0:=Aj hA
  refine .inr ⟨[0,1,2,3,4,5],[.ptr 0 0,.dv (Ad st.mv)],vK false s,2,_,_,wN,by kernel_rfl,by kernel_rfl,⟨rfl,rf,tv⟩,⟨⟨rf,rf,rf,rf,rf,rf,rfl,rfl,rfl,rfl,rfl,tv⟩,⟨rfl,rfl⟩,⟨rfl,rfl⟩,⟨rfl,rfl⟩,⟨rfl,rfl⟩,⟨rfl,rfl⟩,tv⟩,?_⟩
  refine ⟨fun _=>?_,fun h9=>absurd h9 (by simpa using L2)⟩
  rw [qY]
  exact ⟨_,_,⟨rfl,rfl⟩,by kernel_rfl,⟨rf,tv⟩,⟨rf,rf,rf,rf,rf,rf,rfl,rfl,rfl,rfl,rfl,tv⟩,⟨rfl,rfl⟩,⟨rfl,rfl⟩,⟨rfl,rfl⟩,⟨rfl,rfl⟩,⟨rfl,rfl⟩,tv⟩
 | ok A =>
  rw [hA] at wN qY
  simp only at qY
  refine .inr ⟨[0,1,2,3,4,5],[.ptr 0 0,.dv (Ad st.mv)],vK false s,2,_,_,wN,by kernel_rfl,by kernel_rfl,⟨rfl,rf,tv⟩,⟨⟨rf,rf,rf,rf,rf,rf,rfl,rfl,rfl,rfl,rfl,tv⟩,⟨rfl,rfl⟩,⟨rfl,rfl⟩,⟨rfl,rfl⟩,⟨rfl,rfl⟩,⟨rfl,rfl⟩,tv⟩,?_⟩
  refine ⟨fun h9=>by simp at h9,fun _=>?_⟩
  have UW:=Cb s st
  generalize Gq:bD s.coin st=sa at *
  obtain ⟨it,n,c,b⟩:=sa
  refine .inr ⟨[0,1,2,3,4,5],[.ptr 0 0,Es st],vK false s,0,_,_,UW,by kernel_rfl,by kernel_rfl,⟨rfl,⟨rf,rf,rf,rf,rf,rf,rf,tv⟩,tv⟩,⟨⟨rf,rf,rf,rf,rf,rf,rfl,rfl,rfl,rfl,rfl,tv⟩,⟨rfl,rfl⟩,⟨rfl,rfl⟩,⟨rfl,rfl⟩,⟨rfl,rfl⟩,⟨rfl,rfl⟩,tv⟩,?_⟩
  refine .inr ⟨[0,1,2,3,4,5],[.ptr 0 0,.dv (I st.tick)],vK false s,0,_,_,Tw,by kernel_rfl,by kernel_rfl,⟨rfl,rf,tv⟩,⟨⟨rf,rf,rf,rf,rf,rf,rfl,rfl,rfl,rfl,rfl,tv⟩,⟨rfl,rfl⟩,⟨rfl,rfl⟩,⟨rfl,rfl⟩,⟨rfl,rfl⟩,⟨rfl,rfl⟩,tv⟩,?_⟩
  refine .inr ⟨[0,1,2,3,4,5],[.ptr 0 0],vK false s,0,_,_,X4,by kernel_rfl,by kernel_rfl,⟨rfl,tv⟩,⟨⟨rf,rf,rf,rf,rf,rf,rfl,rfl,rfl,rfl,rfl,tv⟩,⟨rfl,rfl⟩,⟨rfl,rfl⟩,⟨rfl,rfl⟩,⟨rfl,rfl⟩,⟨rfl,rfl⟩,tv⟩,?_⟩
  have X5:dw S (st.tick - s.ab)≤1000:=Nat.le_trans (by unfold dw; exact (List.takeWhile_sublist _).length_le) h.len
  have X6:s.bQ.length≤1000:=by rw [h.bQ,List.length_map]; exact h.len
  refine ⟨fun _=>⟨by omega,by omega⟩,?_⟩
  have Wh:A.length≤100000:=by have:=qL hA; simp only [List.length_nil] at this; omega
  generalize om:dw S (st.tick - s.ab)=lv at *
  cases b
  ·refine ⟨fun hb=>(by cases hb),fun _=>?_⟩
   obtain ⟨z0,Db⟩:∃z0:Int,(s.H.length:Int)+(s.bQ.length:Int) - (lv:Int)=z0:=⟨_,rfl⟩
   have UX:Kv s S st=z0:=by unfold Kv; rw [Gq,om]; simp only [cond_false,Int.add_zero]; exact Db
   have Mu:-1000≤z0∧z0≤1000000:=by omega
   rw [UX] at qY
   refine ⟨UT,Wf s st A it n c false lv,fun z=>z.sz+iG s.H z.left=z0+iG s.H A∧z0 - ((A.length:Int) - (z.left.length:Int))≤z.sz∧z.sz≤z0+((A.length:Int) - (z.left.length:Int))∧z.left.length≤A.length,fun z=>z.left.length,⟨A,z0⟩,fun _=>rfl,?_,?_,?_⟩
   ·exact ⟨⟨rfl,rfl,rfl,rf,rf,rf,rf,rf,aB Db,rfl,tv⟩,⟨⟨rf,rf,rf,rf,rf,rf,rfl,rfl,rfl,rfl,rfl,tv⟩,⟨rfl,rfl⟩,⟨rfl,rfl⟩,⟨rfl,rfl⟩,⟨rfl,rfl⟩,⟨rfl,rfl⟩,⟨rf,rf,rf,rf,rf,rf,rf,tv⟩,tv,⟨rfl,rfl,rfl,rfl,.inl rfl,tv⟩,tv⟩,rfl,rfl⟩
   ·exact ⟨rfl,by simp only; omega,by simp only; omega,Nat.le_refl _⟩
   ·rintro ⟨left,sz⟩ ⟨h1,h2,h3,h4⟩
    simp only at h1 h2 h3 h4
    refine ⟨tv,fun h5=>⟨(fun h6=>by cases h6),fun _=>?_⟩,fun pos cc iy=>⟨fun _=>?_,fun h6=>by cases h6⟩⟩
    ·have hz:left=[]:=by simpa using h5
     subst hz
     have UY:sz=z0+iG s.H A:=by have:iG s.H []=0:=rfl; omega
     refine ⟨fun hq=>?_,fun hq=>?_⟩
     ·have hq:s.aC<sz:=of_decide_eq_true hq
      rw [if_pos (by omega)] at qY
      rw [qY]
      exact ⟨_,_,⟨rfl,rfl⟩,by kernel_rfl,⟨rf,tv⟩,⟨rf,rf,rf,rf,rf,rf,rfl,rfl,rfl,rfl,rfl,tv⟩,⟨rfl,rfl⟩,⟨rfl,rfl⟩,⟨rfl,rfl⟩,⟨rfl,rfl⟩,⟨rfl,rfl⟩,tv⟩
     have hq:¬ s.aC<sz:=of_decide_eq_false hq
     rw [if_neg (by omega)] at qY
     rw [qY]
     refine ⟨UU,Wg s st A it n c false lv,fun z=>(z.done++z.left).Perm A∧z.f=fC s z.done,fun z=>z.left.length,⟨A,[],false⟩,fun z=>by obtain ⟨z1,z2,z3⟩:=z; cases z3 <;> rfl,?_,?_,?_⟩
     ·exact ⟨⟨rfl,rfl,rf,rf,rf,rf,rf,rfl,tv⟩,⟨⟨rf,rf,rf,rf,rf,rf,rfl,rfl,rfl,rfl,rfl,tv⟩,⟨rfl,rfl⟩,⟨rfl,rfl⟩,⟨rfl,rfl⟩,⟨rfl,rfl⟩,⟨rfl,rfl⟩,⟨rf,rf,rf,rf,rf,rf,rf,tv⟩,tv,⟨rfl,rfl,rfl,rfl,.inl rfl,tv⟩,tv⟩,rfl,rfl⟩
     ·exact ⟨List.Perm.refl _,rfl⟩
     ·rintro ⟨left,done,f⟩ ⟨g1,g2⟩
      simp only at g1 g2
      refine ⟨tv,fun h5=>⟨(fun h6=>by cases h6),fun _=>?_⟩,fun pos cc iy=>⟨fun _=>?_,fun h6=>by cases h6⟩⟩
      ·have hz:left=[]:=by simpa using h5
       subst hz
       have k1:(aI s done).bQ=s.bQ:=jH s done
       have k2:(aI s done).sl=s.sl:=nu s done
       have k3:s.bQ.length=S.length:=by rw [h.bQ,List.length_map]
       have k4:lv≤S.length:=by rw [←om]; unfold dw; exact (List.takeWhile_sublist _).length_le
       have k5:f=fC s A:=by rw [g2]; unfold fC; exact Ck (by simpa using g1) _
       have k6:done.Perm A:=by simpa using g1
       have k8:=lN s done
       have k9:done.length≤100000:=by rw [k6.length_eq]; exact Wh
       generalize eT:aI s done=s1 at *
       have Sn:dp s S 0=s1.sl:=by rw [k2]; exact yq h
       cases f
       ·refine .inr (.inl ⟨fun _=>⟨by simp,by simp,by simp only [k1,List.length_map,Option.getD_some]; omega⟩,?_⟩)
        refine ⟨Sj,Tv s s1 S st it n c false lv false,fun z=>z.j≤lv∧z.h=decide (0<z.j),fun z=>lv - z.j,⟨0,false⟩,fun z=>by obtain ⟨z1,z2⟩:=z; cases z2 <;> rfl,?_,?_,?_⟩
        ·exact ⟨⟨rfl,rfl,rf,rf,rf,rf,rf,rfl,rf,rf,tv⟩,⟨⟨rf,rf,rf,rf,rf,rf,rfl,rfl,rfl,rfl,rfl,tv⟩,⟨rfl,rfl⟩,⟨rfl,rfl⟩,⟨rfl,rfl⟩,⟨rfl,by rw [Sn]⟩,⟨rfl,rfl⟩,⟨rf,rf,rf,rf,rf,rf,rf,tv⟩,tv⟩,rfl,rfl⟩
        ·exact ⟨Nat.zero_le _,rfl⟩
        ·rintro ⟨j,hh⟩ ⟨q1,q2⟩
         simp only at q1 q2
         refine ⟨fun aJ=>?_,fun du=>?_⟩
         ·have aJ:j<lv:=by have:=of_decide_eq_true aJ; simp only [Int.ofNat_lt] at this; exact this
          obtain ⟨⟨i4,x0⟩,ka⟩:∃q,S[j]?=some q:=⟨_,List.getElem?_eq_getElem (by omega)⟩
          have P7:i4<4:=h.it _ (List.mem_of_getElem? ka)
          have pj:(s1.bQ.map I)[0+((j:Int)).toNat]?=some (I (i4:Int)):=by rw [k1,h.bQ,List.map_map,List.getElem?_map,Nat.zero_add,Int.toNat_natCast,ka]; rfl
          obtain ⟨e1,e2⟩:=n6 h ka
          have iF:((dp s S j).map mA)[((i4:Int)).toNat]?=some (.ax 5 (bT x0::(ck (S.drop (j+1)) i4).map bT)):=by rw [List.getElem?_map,Int.toNat_natCast,e1]; rfl
          refine ⟨fun _=>⟨by simp only; omega,by simp only; omega⟩,I (i4:Int),fun _=>pj,?_⟩
          have ei:(0:Int)≤(i4:Int)∧(i4:Int)<(((dp s S j).map mA).length:Int):=⟨by omega,by rw [List.length_map,cl]; omega⟩
          have b4:DV.ax 1 ((((dp s S j).map mA).set ((i4:Int)).toNat .any).set ((i4:Int)).toNat (.ax 5 ((ck (S.drop (j+1)) i4).map bT)))=.ax 1 ((dp s S (j+1)).map mA):=by
           rw [List.set_set,Int.toNat_natCast,e2,List.map_set]; rfl
          have wg:DV.ax 5 (List.drop 1 (List.take ((((bT x0::(ck (S.drop (j+1)) i4).map bT).length:Nat):Int)).toNat (bT x0::(ck (S.drop (j+1)) i4).map bT)))=DV.ax 5 ((ck (S.drop (j+1)) i4).map bT):=by
           rw [Int.toNat_natCast,List.take_length]; rfl
          cases hh
          ·refine ⟨fun _=>ei,.ax 5 (bT x0::(ck (S.drop (j+1)) i4).map bT),fun _=>iF,?_⟩
           refine .inr (.inr ⟨.ax 5 (bT x0::(ck (S.drop (j+1)) i4).map bT),fun _=>iF,⟨by simp,by simp; omega,by simp⟩,?_⟩)
           refine ⟨.ax 5 (bT x0::(ck (S.drop (j+1)) i4).map bT),iF,?_⟩
           refine ⟨fun _=>by rw [List.length_set]; exact ei,[.ax 5 ((ck (S.drop (j+1)) i4).map bT)],⟨wg,tv⟩,.any,List.getElem?_set_self (by rw [List.length_map,cl]; omega),?_⟩
           refine ⟨by kernel_rfl,fun _=>⟨by simp only; omega,by simp only; omega⟩,⟨j+1,true⟩,⟨⟨rfl,rfl,rf,rf,rf,rf,rf,rfl,rf,aB (by simp),tv⟩,⟨⟨rf,rf,rf,rf,rf,rf,rfl,rfl,rfl,rfl,rfl,tv⟩,⟨rfl,rfl⟩,⟨rfl,rfl⟩,⟨rfl,rfl⟩,⟨rfl,b4⟩,⟨rfl,rfl⟩,⟨rf,rf,rf,rf,rf,rf,rf,tv⟩,tv⟩,rfl,rfl⟩,⟨by simp only; omega,by simp⟩,by simp only; omega⟩
          ·refine ⟨fun _=>ei,.ax 5 (bT x0::(ck (S.drop (j+1)) i4).map bT),fun _=>iF,?_⟩
           refine .inr (.inr ⟨.ax 5 (bT x0::(ck (S.drop (j+1)) i4).map bT),fun _=>iF,⟨by simp,by simp; omega,by simp⟩,?_⟩)
           refine ⟨.ax 5 (bT x0::(ck (S.drop (j+1)) i4).map bT),iF,?_⟩
           refine ⟨fun _=>by rw [List.length_set]; exact ei,[.ax 5 ((ck (S.drop (j+1)) i4).map bT)],⟨wg,tv⟩,.any,List.getElem?_set_self (by rw [List.length_map,cl]; omega),?_⟩
           refine ⟨by kernel_rfl,fun _=>⟨by simp only; omega,by simp only; omega⟩,⟨j+1,true⟩,⟨⟨rfl,rfl,rf,rf,rf,rf,rf,rfl,rf,aB (by simp),tv⟩,⟨⟨rf,rf,rf,rf,rf,rf,rfl,rfl,rfl,rfl,rfl,tv⟩,⟨rfl,rfl⟩,⟨rfl,rfl⟩,⟨rfl,rfl⟩,⟨rfl,b4⟩,⟨rfl,rfl⟩,⟨rf,rf,rf,rf,rf,rf,rf,tv⟩,tv⟩,rfl,rfl⟩,⟨by simp only; omega,by simp⟩,by simp only; omega⟩
         ·have du:j=lv:=by have:=of_decide_eq_false du; simp only [Int.ofNat_lt] at this; omega
          subst du
          have uM:DV.ax 1 (List.drop ((j:Int)).toNat (List.take (((s1.bQ.map I).length:Nat):Int).toNat (s1.bQ.map I)))=vK.iJ (s1.bQ.drop j):=by
           rw [Int.toNat_natCast,Int.toNat_natCast,List.take_length,←List.map_drop]; rfl
          refine .inl ⟨⟨by simp,by simp only [Option.getD_some,Option.getD_none,List.length_map,k1,k3]; omega,by simp⟩,fun _=>⟨by simp only; omega,by simp only; omega⟩,?_⟩
          refine ⟨(fun h9=>by cases h9),fun _=>?_⟩
          have k7:dp s1 S j=dp s S j:=by unfold dp; rw [k2]
          cases hh
          ·have r9:lL s S st (.ok A) [.dv (I 0)] (wV false false true { df s1 S j with last:=st.tick }):=by
            refine ⟨done,k6,rfl,?_⟩
            rw [eT,←k5,Gq,om,←q2]
            have h0:cL s S st s1={ df s1 S j with last:=st.tick }:=by unfold cL; rw [Gq,om]; rfl
            rw [h0]; simp
           exact ⟨_,_,r9,by kernel_rfl,⟨rf,tv⟩,⟨rf,rf,rf,rf,rf,rf,rfl,rfl,rfl,rfl,rfl,tv⟩,⟨rfl,rfl⟩,⟨rfl,rfl⟩,⟨rfl,rfl⟩,⟨rfl,by rw [←k7]; rfl⟩,⟨rfl,uM⟩,tv⟩
          ·have r9:lL s S st (.ok A) [.dv (I 0)] (wV false true true { df s1 S j with last:=st.tick }):=by
            refine ⟨done,k6,rfl,?_⟩
            rw [eT,←k5,Gq,om,←q2]
            have h0:cL s S st s1={ df s1 S j with last:=st.tick }:=by unfold cL; rw [Gq,om]; rfl
            rw [h0]; simp
           exact ⟨_,_,r9,by kernel_rfl,⟨rf,tv⟩,⟨rf,rf,rf,rf,rf,rf,rfl,rfl,rfl,rfl,rfl,tv⟩,⟨rfl,rfl⟩,⟨rfl,rfl⟩,⟨rfl,rfl⟩,⟨rfl,by rw [←k7]; rfl⟩,⟨rfl,uM⟩,tv⟩
       ·refine .inr (.inl ⟨fun _=>⟨by simp,by simp,by simp only [k1,List.length_map,Option.getD_some]; omega⟩,?_⟩)
        refine ⟨Sj,Tv s s1 S st it n c false lv true,fun z=>z.j≤lv∧z.h=decide (0<z.j),fun z=>lv - z.j,⟨0,false⟩,fun z=>by obtain ⟨z1,z2⟩:=z; cases z2 <;> rfl,?_,?_,?_⟩
        ·exact ⟨⟨rfl,rfl,rf,rf,rf,rf,rf,rfl,rf,rf,tv⟩,⟨⟨rf,rf,rf,rf,rf,rf,rfl,rfl,rfl,rfl,rfl,tv⟩,⟨rfl,rfl⟩,⟨rfl,rfl⟩,⟨rfl,rfl⟩,⟨rfl,by rw [Sn]⟩,⟨rfl,rfl⟩,⟨rf,rf,rf,rf,rf,rf,rf,tv⟩,tv⟩,rfl,rfl⟩
        ·exact ⟨Nat.zero_le _,rfl⟩
        ·rintro ⟨j,hh⟩ ⟨q1,q2⟩
         simp only at q1 q2
         refine ⟨fun aJ=>?_,fun du=>?_⟩
         ·have aJ:j<lv:=by have:=of_decide_eq_true aJ; simp only [Int.ofNat_lt] at this; exact this
          obtain ⟨⟨i4,x0⟩,ka⟩:∃q,S[j]?=some q:=⟨_,List.getElem?_eq_getElem (by omega)⟩
          have P7:i4<4:=h.it _ (List.mem_of_getElem? ka)
          have pj:(s1.bQ.map I)[0+((j:Int)).toNat]?=some (I (i4:Int)):=by rw [k1,h.bQ,List.map_map,List.getElem?_map,Nat.zero_add,Int.toNat_natCast,ka]; rfl
          obtain ⟨e1,e2⟩:=n6 h ka
          have iF:((dp s S j).map mA)[((i4:Int)).toNat]?=some (.ax 5 (bT x0::(ck (S.drop (j+1)) i4).map bT)):=by rw [List.getElem?_map,Int.toNat_natCast,e1]; rfl
          refine ⟨fun _=>⟨by simp only; omega,by simp only; omega⟩,I (i4:Int),fun _=>pj,?_⟩
          have ei:(0:Int)≤(i4:Int)∧(i4:Int)<(((dp s S j).map mA).length:Int):=⟨by omega,by rw [List.length_map,cl]; omega⟩
          have b4:DV.ax 1 ((((dp s S j).map mA).set ((i4:Int)).toNat .any).set ((i4:Int)).toNat (.ax 5 ((ck (S.drop (j+1)) i4).map bT)))=.ax 1 ((dp s S (j+1)).map mA):=by
           rw [List.set_set,Int.toNat_natCast,e2,List.map_set]; rfl
          have wg:DV.ax 5 (List.drop 1 (List.take ((((bT x0::(ck (S.drop (j+1)) i4).map bT).length:Nat):Int)).toNat (bT x0::(ck (S.drop (j+1)) i4).map bT)))=DV.ax 5 ((ck (S.drop (j+1)) i4).map bT):=by
           rw [Int.toNat_natCast,List.take_length]; rfl
          cases hh
          ·refine ⟨fun _=>ei,.ax 5 (bT x0::(ck (S.drop (j+1)) i4).map bT),fun _=>iF,?_⟩
           refine .inr (.inr ⟨.ax 5 (bT x0::(ck (S.drop (j+1)) i4).map bT),fun _=>iF,⟨by simp,by simp; omega,by simp⟩,?_⟩)
           refine ⟨.ax 5 (bT x0::(ck (S.drop (j+1)) i4).map bT),iF,?_⟩
           refine ⟨fun _=>by rw [List.length_set]; exact ei,[.ax 5 ((ck (S.drop (j+1)) i4).map bT)],⟨wg,tv⟩,.any,List.getElem?_set_self (by rw [List.length_map,cl]; omega),?_⟩
           refine ⟨by kernel_rfl,fun _=>⟨by simp only; omega,by simp only; omega⟩,⟨j+1,true⟩,⟨⟨rfl,rfl,rf,rf,rf,rf,rf,rfl,rf,aB (by simp),tv⟩,⟨⟨rf,rf,rf,rf,rf,rf,rfl,rfl,rfl,rfl,rfl,tv⟩,⟨rfl,rfl⟩,⟨rfl,rfl⟩,⟨rfl,rfl⟩,⟨rfl,b4⟩,⟨rfl,rfl⟩,⟨rf,rf,rf,rf,rf,rf,rf,tv⟩,tv⟩,rfl,rfl⟩,⟨by simp only; omega,by simp⟩,by simp only; omega⟩
          ·refine ⟨fun _=>ei,.ax 5 (bT x0::(ck (S.drop (j+1)) i4).map bT),fun _=>iF,?_⟩
           refine .inr (.inr ⟨.ax 5 (bT x0::(ck (S.drop (j+1)) i4).map bT),fun _=>iF,⟨by simp,by simp; omega,by simp⟩,?_⟩)
           refine ⟨.ax 5 (bT x0::(ck (S.drop (j+1)) i4).map bT),iF,?_⟩
           refine ⟨fun _=>by rw [List.length_set]; exact ei,[.ax 5 ((ck (S.drop (j+1)) i4).map bT)],⟨wg,tv⟩,.any,List.getElem?_set_self (by rw [List.length_map,cl]; omega),?_⟩
           refine ⟨by kernel_rfl,fun _=>⟨by simp only; omega,by simp only; omega⟩,⟨j+1,true⟩,⟨⟨rfl,rfl,rf,rf,rf,rf,rf,rfl,rf,aB (by simp),tv⟩,⟨⟨rf,rf,rf,rf,rf,rf,rfl,rfl,rfl,rfl,rfl,tv⟩,⟨rfl,rfl⟩,⟨rfl,rfl⟩,⟨rfl,rfl⟩,⟨rfl,b4⟩,⟨rfl,rfl⟩,⟨rf,rf,rf,rf,rf,rf,rf,tv⟩,tv⟩,rfl,rfl⟩,⟨by simp only; omega,by simp⟩,by simp only; omega⟩
         ·have du:j=lv:=by have:=of_decide_eq_false du; simp only [Int.ofNat_lt] at this; omega
          subst du
          have uM:DV.ax 1 (List.drop ((j:Int)).toNat (List.take (((s1.bQ.map I).length:Nat):Int).toNat (s1.bQ.map I)))=vK.iJ (s1.bQ.drop j):=by
           rw [Int.toNat_natCast,Int.toNat_natCast,List.take_length,←List.map_drop]; rfl
          refine .inl ⟨⟨by simp,by simp only [Option.getD_some,Option.getD_none,List.length_map,k1,k3]; omega,by simp⟩,fun _=>⟨by simp only; omega,by simp only; omega⟩,?_⟩
          refine ⟨(fun h9=>by cases h9),fun _=>?_⟩
          have k7:dp s1 S j=dp s S j:=by unfold dp; rw [k2]
          cases hh
          ·have r9:lL s S st (.ok A) [.dv (I 0)] (wV true false true { df s1 S j with last:=st.tick }):=by
            refine ⟨done,k6,rfl,?_⟩
            rw [eT,←k5,Gq,om,←q2]
            have h0:cL s S st s1={ df s1 S j with last:=st.tick }:=by unfold cL; rw [Gq,om]; rfl
            rw [h0]; simp
           exact ⟨_,_,r9,by kernel_rfl,⟨rf,tv⟩,⟨rf,rf,rf,rf,rf,rf,rfl,rfl,rfl,rfl,rfl,tv⟩,⟨rfl,rfl⟩,⟨rfl,rfl⟩,⟨rfl,rfl⟩,⟨rfl,by rw [←k7]; rfl⟩,⟨rfl,uM⟩,tv⟩
          ·have r9:lL s S st (.ok A) [.dv (I 0)] (wV true true true { df s1 S j with last:=st.tick }):=by
            refine ⟨done,k6,rfl,?_⟩
            rw [eT,←k5,Gq,om,←q2]
            have h0:cL s S st s1={ df s1 S j with last:=st.tick }:=by unfold cL; rw [Gq,om]; rfl
            rw [h0]; simp
           exact ⟨_,_,r9,by kernel_rfl,⟨rf,tv⟩,⟨rf,rf,rf,rf,rf,rf,rfl,rfl,rfl,rfl,rfl,tv⟩,⟨rfl,rfl⟩,⟨rfl,rfl⟩,⟨rfl,rfl⟩,⟨rfl,by rw [←k7]; rfl⟩,⟨rfl,uM⟩,tv⟩
      ·simp only at iy
       rw [List.getElem?_map] at iy
       obtain ⟨⟨k,x⟩,hk,rfl⟩:∃p,left[pos]?=some p∧cc=qF p:=by
        cases hq:left[pos]? with
        | none=>rw [hq] at iy; cases iy
        | some p=>rw [hq] at iy; exact ⟨p,rfl,by simpa using iy.symm⟩
       refine ⟨lM x,?_⟩
       have AK:(done++(k,x)::left.eraseIdx pos).Perm A:=((pq hk).append_left done).symm.trans g1
       obtain ⟨ii,bU,UZ⟩:=iR A hA done k x _ AK
       have cK:=B9 (aI s done) k ii x bU
       have B2:cF (aI s done) k ii x=aI s (done++[(k,x)]):=by
        unfold aI; rw [List.foldl_append]; show cF _ k ii x=cF _ k k.2.toNat x
        rw [show k.2.toNat=ii by have:=bU.it; omega]
       rw [B2,UZ] at cK
       have sC:fC s (done++[(k,x)])=(f || cu s k x):=by unfold fC; rw [List.any_append,g2]; simp [fC]
       cases f
       ·cases Kx:cu s k x
        ·rw [Kx] at cK sC
         refine .inr ⟨[0,1,2,3,4,5],[.ptr 0 0,.agg [.dv (I k.1),.dv (I k.2)],.dv (I x)],vK false (aI s done),0,_,_,cK,by kernel_rfl,by kernel_rfl,⟨rfl,⟨rf,rf,tv⟩,rf,tv⟩,⟨⟨rf,rf,rf,rf,rf,rf,rfl,rfl,rfl,rfl,rfl,tv⟩,⟨rfl,rfl⟩,⟨rfl,rfl⟩,⟨rfl,rfl⟩,⟨rfl,rfl⟩,⟨rfl,rfl⟩,tv⟩,?_⟩
         exact ⟨⟨left.eraseIdx pos,done++[(k,x)],false⟩,⟨⟨rfl,rfl,rf,rf,rf,rf,rf,rfl,tv⟩,⟨⟨rf,rf,rf,rf,rf,rf,rfl,rfl,rfl,rfl,rfl,tv⟩,⟨rfl,rfl⟩,⟨rfl,rfl⟩,⟨rfl,rfl⟩,⟨rfl,rfl⟩,⟨rfl,rfl⟩,⟨rf,rf,rf,rf,rf,rf,rf,tv⟩,tv,⟨rfl,rfl,rfl,cN _ _,.inl rfl,tv⟩,tv⟩,rfl,rfl⟩,⟨by simp only [List.append_assoc]; exact AK,sC.symm⟩,by simp only; have:=eD hk; omega⟩
        ·rw [Kx] at cK sC
         refine .inr ⟨[0,1,2,3,4,5],[.ptr 0 0,.agg [.dv (I k.1),.dv (I k.2)],.dv (I x)],vK false (aI s done),0,_,_,cK,by kernel_rfl,by kernel_rfl,⟨rfl,⟨rf,rf,tv⟩,rf,tv⟩,⟨⟨rf,rf,rf,rf,rf,rf,rfl,rfl,rfl,rfl,rfl,tv⟩,⟨rfl,rfl⟩,⟨rfl,rfl⟩,⟨rfl,rfl⟩,⟨rfl,rfl⟩,⟨rfl,rfl⟩,tv⟩,?_⟩
         exact ⟨⟨left.eraseIdx pos,done++[(k,x)],true⟩,⟨⟨rfl,rfl,rf,rf,rf,rf,rf,rfl,tv⟩,⟨⟨rf,rf,rf,rf,rf,rf,rfl,rfl,rfl,rfl,rfl,tv⟩,⟨rfl,rfl⟩,⟨rfl,rfl⟩,⟨rfl,rfl⟩,⟨rfl,rfl⟩,⟨rfl,rfl⟩,⟨rf,rf,rf,rf,rf,rf,rf,tv⟩,tv,⟨rfl,rfl,rfl,cN _ _,.inl rfl,tv⟩,tv⟩,rfl,rfl⟩,⟨by simp only [List.append_assoc]; exact AK,sC.symm⟩,by simp only; have:=eD hk; omega⟩
       ·cases Kx:cu s k x
        ·rw [Kx] at cK sC
         refine .inr ⟨[0,1,2,3,4,5],[.ptr 0 0,.agg [.dv (I k.1),.dv (I k.2)],.dv (I x)],vK false (aI s done),0,_,_,cK,by kernel_rfl,by kernel_rfl,⟨rfl,⟨rf,rf,tv⟩,rf,tv⟩,⟨⟨rf,rf,rf,rf,rf,rf,rfl,rfl,rfl,rfl,rfl,tv⟩,⟨rfl,rfl⟩,⟨rfl,rfl⟩,⟨rfl,rfl⟩,⟨rfl,rfl⟩,⟨rfl,rfl⟩,tv⟩,?_⟩
         exact ⟨⟨left.eraseIdx pos,done++[(k,x)],true⟩,⟨⟨rfl,rfl,rf,rf,rf,rf,rf,rfl,tv⟩,⟨⟨rf,rf,rf,rf,rf,rf,rfl,rfl,rfl,rfl,rfl,tv⟩,⟨rfl,rfl⟩,⟨rfl,rfl⟩,⟨rfl,rfl⟩,⟨rfl,rfl⟩,⟨rfl,rfl⟩,⟨rf,rf,rf,rf,rf,rf,rf,tv⟩,tv,⟨rfl,rfl,rfl,cN _ _,.inl rfl,tv⟩,tv⟩,rfl,rfl⟩,⟨by simp only [List.append_assoc]; exact AK,sC.symm⟩,by simp only; have:=eD hk; omega⟩
        ·rw [Kx] at cK sC
         refine .inr ⟨[0,1,2,3,4,5],[.ptr 0 0,.agg [.dv (I k.1),.dv (I k.2)],.dv (I x)],vK false (aI s done),0,_,_,cK,by kernel_rfl,by kernel_rfl,⟨rfl,⟨rf,rf,tv⟩,rf,tv⟩,⟨⟨rf,rf,rf,rf,rf,rf,rfl,rfl,rfl,rfl,rfl,tv⟩,⟨rfl,rfl⟩,⟨rfl,rfl⟩,⟨rfl,rfl⟩,⟨rfl,rfl⟩,⟨rfl,rfl⟩,tv⟩,?_⟩
         exact ⟨⟨left.eraseIdx pos,done++[(k,x)],true⟩,⟨⟨rfl,rfl,rf,rf,rf,rf,rf,rfl,tv⟩,⟨⟨rf,rf,rf,rf,rf,rf,rfl,rfl,rfl,rfl,rfl,tv⟩,⟨rfl,rfl⟩,⟨rfl,rfl⟩,⟨rfl,rfl⟩,⟨rfl,rfl⟩,⟨rfl,rfl⟩,⟨rf,rf,rf,rf,rf,rf,rf,tv⟩,tv,⟨rfl,rfl,rfl,cN _ _,.inl rfl,tv⟩,tv⟩,rfl,rfl⟩,⟨by simp only [List.append_assoc]; exact AK,sC.symm⟩,by simp only; have:=eD hk; omega⟩
    ·simp only at iy
     rw [List.getElem?_map] at iy
     obtain ⟨⟨k,x⟩,hk,rfl⟩:∃p,left[pos]?=some p∧cc=qF p:=by
      cases hq:left[pos]? with
      | none=>rw [hq] at iy; cases iy
      | some p=>rw [hq] at iy; exact ⟨p,rfl,by simpa using iy.symm⟩
     refine ⟨lM x,?_⟩
     refine ⟨gT,wU k,rfl,rfl,I (hv s.H k),(bm s.H k).isSome,fun _=>Cc s.H k,Gm s.H k,rfl,?_⟩
     refine ⟨by kernel_rfl,?_⟩
     repeat first | refine ⟨id,?_⟩ | refine ⟨fun _ h=>cx h,?_⟩ | refine ⟨fun _ h=>ay h,?_⟩ | refine ⟨fun h=>⟨h,fun h2=>aQ h h2⟩,?_⟩ | refine ⟨fun h=>⟨h,fun h2=>aF h h2⟩,?_⟩
     have Dr:=po s.H hk
     have hle:=eD hk
     refine ⟨fun hq=>?_,fun hq=>?_⟩
     ·have hd:Cj s.H (k,x)=1:=by
       show (bif (bif hv s.H k == 0 then x != 0 else false) then (1:Int) else _)=1
       rw [show (bif hv s.H k == 0 then x != 0 else false)=true from hq]; rfl
      have h0:hv s.H k=0:=by
       cases hz:(hv s.H k == 0) with
       | true=>simpa using hz
       | false=>rw [hz] at hq; cases hq
      refine ⟨fun _=>⟨by simp only; omega,by simp only; omega⟩,?_⟩
      repeat first | refine ⟨id,?_⟩ | refine ⟨fun _ h=>cx h,?_⟩ | refine ⟨fun _ h=>ay h,?_⟩ | refine ⟨fun h=>⟨h,fun h2=>aQ h h2⟩,?_⟩ | refine ⟨fun h=>⟨h,fun h2=>aF h h2⟩,?_⟩
      refine ⟨fun hr=>absurd hr (by rw [h0]; simp),fun _=>?_⟩
      exact ⟨⟨left.eraseIdx pos,sz+1⟩,⟨⟨rfl,rfl,rfl,rf,rf,rf,rf,rf,rf,rfl,tv⟩,⟨⟨rf,rf,rf,rf,rf,rf,rfl,rfl,rfl,rfl,rfl,tv⟩,⟨rfl,rfl⟩,⟨rfl,rfl⟩,⟨rfl,rfl⟩,⟨rfl,rfl⟩,⟨rfl,rfl⟩,⟨rf,rf,rf,rf,rf,rf,rf,tv⟩,tv,⟨rfl,rfl,rfl,cN _ _,.inl rfl,tv⟩,tv⟩,rfl,rfl⟩,⟨by simp only; omega,by simp only; omega,by simp only; omega,by simp only; omega⟩,by simp only; omega⟩
     ·repeat first | refine ⟨id,?_⟩ | refine ⟨fun _ h=>cx h,?_⟩ | refine ⟨fun _ h=>ay h,?_⟩ | refine ⟨fun h=>⟨h,fun h2=>aQ h h2⟩,?_⟩ | refine ⟨fun h=>⟨h,fun h2=>aF h h2⟩,?_⟩
      refine ⟨fun hr=>?_,fun hr=>?_⟩
      ·have hd:Cj s.H (k,x)=-1:=by
        show (bif (bif hv s.H k == 0 then x != 0 else false) then (1:Int) else bif (bif hv s.H k != 0 then x == 0 else false) then -1 else 0)=-1
        rw [show (bif hv s.H k == 0 then x != 0 else false)=false from hq,show (bif hv s.H k != 0 then x == 0 else false)=true from hr]; rfl
       refine ⟨fun _=>⟨by simp only; omega,by simp only; omega⟩,?_⟩
       exact ⟨⟨left.eraseIdx pos,sz - 1⟩,⟨⟨rfl,rfl,rfl,rf,rf,rf,rf,rf,rf,rfl,tv⟩,⟨⟨rf,rf,rf,rf,rf,rf,rfl,rfl,rfl,rfl,rfl,tv⟩,⟨rfl,rfl⟩,⟨rfl,rfl⟩,⟨rfl,rfl⟩,⟨rfl,rfl⟩,⟨rfl,rfl⟩,⟨rf,rf,rf,rf,rf,rf,rf,tv⟩,tv,⟨rfl,rfl,rfl,cN _ _,.inl rfl,tv⟩,tv⟩,rfl,rfl⟩,⟨by simp only; omega,by simp only; omega,by simp only; omega,by simp only; omega⟩,by simp only; omega⟩
      ·have hd:Cj s.H (k,x)=0:=by
        show (bif (bif hv s.H k == 0 then x != 0 else false) then (1:Int) else bif (bif hv s.H k != 0 then x == 0 else false) then -1 else 0)=0
        rw [show (bif hv s.H k == 0 then x != 0 else false)=false from hq,show (bif hv s.H k != 0 then x == 0 else false)=false from hr]; rfl
       exact ⟨⟨left.eraseIdx pos,sz⟩,⟨⟨rfl,rfl,rfl,rf,rf,rf,rf,rf,rf,rfl,tv⟩,⟨⟨rf,rf,rf,rf,rf,rf,rfl,rfl,rfl,rfl,rfl,tv⟩,⟨rfl,rfl⟩,⟨rfl,rfl⟩,⟨rfl,rfl⟩,⟨rfl,rfl⟩,⟨rfl,rfl⟩,⟨rf,rf,rf,rf,rf,rf,rf,tv⟩,tv,⟨rfl,rfl,rfl,cN _ _,.inl rfl,tv⟩,tv⟩,rfl,rfl⟩,⟨by simp only; omega,by simp only; omega,by simp only; omega,by simp only; omega⟩,by simp only; omega⟩
  ·refine ⟨fun _=>⟨fun _=>⟨by omega,by omega⟩,?_⟩,fun hb=>by cases hb⟩
   obtain ⟨z0,Db⟩:∃z0:Int,(s.H.length:Int)+(s.bQ.length:Int) - (lv:Int)+1=z0:=⟨_,rfl⟩
   have UX:Kv s S st=z0:=by unfold Kv; rw [Gq,om]; exact Db
   have Mu:-1000≤z0∧z0≤1000000:=by omega
   rw [UX] at qY
   refine ⟨UT,Wf s st A it n c true lv,fun z=>z.sz+iG s.H z.left=z0+iG s.H A∧z0 - ((A.length:Int) - (z.left.length:Int))≤z.sz∧z.sz≤z0+((A.length:Int) - (z.left.length:Int))∧z.left.length≤A.length,fun z=>z.left.length,⟨A,z0⟩,fun _=>rfl,?_,?_,?_⟩
   ·exact ⟨⟨rfl,rfl,rfl,rf,rf,rf,rf,rf,aB Db,rfl,tv⟩,⟨⟨rf,rf,rf,rf,rf,rf,rfl,rfl,rfl,rfl,rfl,tv⟩,⟨rfl,rfl⟩,⟨rfl,rfl⟩,⟨rfl,rfl⟩,⟨rfl,rfl⟩,⟨rfl,rfl⟩,⟨rf,rf,rf,rf,rf,rf,rf,tv⟩,tv,⟨rfl,rfl,rfl,rfl,.inl rfl,tv⟩,tv⟩,rfl,rfl⟩
   ·exact ⟨rfl,by simp only; omega,by simp only; omega,Nat.le_refl _⟩
   ·rintro ⟨left,sz⟩ ⟨h1,h2,h3,h4⟩
    simp only at h1 h2 h3 h4
    refine ⟨tv,fun h5=>⟨(fun h6=>by cases h6),fun _=>?_⟩,fun pos cc iy=>⟨fun _=>?_,fun h6=>by cases h6⟩⟩
    ·have hz:left=[]:=by simpa using h5
     subst hz
     have UY:sz=z0+iG s.H A:=by have:iG s.H []=0:=rfl; omega
     refine ⟨fun hq=>?_,fun hq=>?_⟩
     ·have hq:s.aC<sz:=of_decide_eq_true hq
      rw [if_pos (by omega)] at qY
      rw [qY]
      exact ⟨_,_,⟨rfl,rfl⟩,by kernel_rfl,⟨rf,tv⟩,⟨rf,rf,rf,rf,rf,rf,rfl,rfl,rfl,rfl,rfl,tv⟩,⟨rfl,rfl⟩,⟨rfl,rfl⟩,⟨rfl,rfl⟩,⟨rfl,rfl⟩,⟨rfl,rfl⟩,tv⟩
     have hq:¬ s.aC<sz:=of_decide_eq_false hq
     rw [if_neg (by omega)] at qY
     rw [qY]
     refine ⟨UU,Wg s st A it n c true lv,fun z=>(z.done++z.left).Perm A∧z.f=fC s z.done,fun z=>z.left.length,⟨A,[],false⟩,fun z=>by obtain ⟨z1,z2,z3⟩:=z; cases z3 <;> rfl,?_,?_,?_⟩
     ·exact ⟨⟨rfl,rfl,rf,rf,rf,rf,rf,rfl,tv⟩,⟨⟨rf,rf,rf,rf,rf,rf,rfl,rfl,rfl,rfl,rfl,tv⟩,⟨rfl,rfl⟩,⟨rfl,rfl⟩,⟨rfl,rfl⟩,⟨rfl,rfl⟩,⟨rfl,rfl⟩,⟨rf,rf,rf,rf,rf,rf,rf,tv⟩,tv,⟨rfl,rfl,rfl,rfl,.inl rfl,tv⟩,tv⟩,rfl,rfl⟩
     ·exact ⟨List.Perm.refl _,rfl⟩
     ·rintro ⟨left,done,f⟩ ⟨g1,g2⟩
      simp only at g1 g2
      refine ⟨tv,fun h5=>⟨(fun h6=>by cases h6),fun _=>?_⟩,fun pos cc iy=>⟨fun _=>?_,fun h6=>by cases h6⟩⟩
      ·have hz:left=[]:=by simpa using h5
       subst hz
       have k1:(aI s done).bQ=s.bQ:=jH s done
       have k2:(aI s done).sl=s.sl:=nu s done
       have k3:s.bQ.length=S.length:=by rw [h.bQ,List.length_map]
       have k4:lv≤S.length:=by rw [←om]; unfold dw; exact (List.takeWhile_sublist _).length_le
       have k5:f=fC s A:=by rw [g2]; unfold fC; exact Ck (by simpa using g1) _
       have k6:done.Perm A:=by simpa using g1
       have k8:=lN s done
       have k9:done.length≤100000:=by rw [k6.length_eq]; exact Wh
       generalize eT:aI s done=s1 at *
       have Sn:dp s S 0=s1.sl:=by rw [k2]; exact yq h
       cases f
       ·refine .inr (.inl ⟨fun _=>⟨by simp,by simp,by simp only [k1,List.length_map,Option.getD_some]; omega⟩,?_⟩)
        refine ⟨Sj,Tv s s1 S st it n c true lv false,fun z=>z.j≤lv∧z.h=decide (0<z.j),fun z=>lv - z.j,⟨0,false⟩,fun z=>by obtain ⟨z1,z2⟩:=z; cases z2 <;> rfl,?_,?_,?_⟩
        ·exact ⟨⟨rfl,rfl,rf,rf,rf,rf,rf,rfl,rf,rf,tv⟩,⟨⟨rf,rf,rf,rf,rf,rf,rfl,rfl,rfl,rfl,rfl,tv⟩,⟨rfl,rfl⟩,⟨rfl,rfl⟩,⟨rfl,rfl⟩,⟨rfl,by rw [Sn]⟩,⟨rfl,rfl⟩,⟨rf,rf,rf,rf,rf,rf,rf,tv⟩,tv⟩,rfl,rfl⟩
        ·exact ⟨Nat.zero_le _,rfl⟩
        ·rintro ⟨j,hh⟩ ⟨q1,q2⟩
         simp only at q1 q2
         refine ⟨fun aJ=>?_,fun du=>?_⟩
         ·have aJ:j<lv:=by have:=of_decide_eq_true aJ; simp only [Int.ofNat_lt] at this; exact this
          obtain ⟨⟨i4,x0⟩,ka⟩:∃q,S[j]?=some q:=⟨_,List.getElem?_eq_getElem (by omega)⟩
          have P7:i4<4:=h.it _ (List.mem_of_getElem? ka)
          have pj:(s1.bQ.map I)[0+((j:Int)).toNat]?=some (I (i4:Int)):=by rw [k1,h.bQ,List.map_map,List.getElem?_map,Nat.zero_add,Int.toNat_natCast,ka]; rfl
          obtain ⟨e1,e2⟩:=n6 h ka
          have iF:((dp s S j).map mA)[((i4:Int)).toNat]?=some (.ax 5 (bT x0::(ck (S.drop (j+1)) i4).map bT)):=by rw [List.getElem?_map,Int.toNat_natCast,e1]; rfl
          refine ⟨fun _=>⟨by simp only; omega,by simp only; omega⟩,I (i4:Int),fun _=>pj,?_⟩
          have ei:(0:Int)≤(i4:Int)∧(i4:Int)<(((dp s S j).map mA).length:Int):=⟨by omega,by rw [List.length_map,cl]; omega⟩
          have b4:DV.ax 1 ((((dp s S j).map mA).set ((i4:Int)).toNat .any).set ((i4:Int)).toNat (.ax 5 ((ck (S.drop (j+1)) i4).map bT)))=.ax 1 ((dp s S (j+1)).map mA):=by
           rw [List.set_set,Int.toNat_natCast,e2,List.map_set]; rfl
          have wg:DV.ax 5 (List.drop 1 (List.take ((((bT x0::(ck (S.drop (j+1)) i4).map bT).length:Nat):Int)).toNat (bT x0::(ck (S.drop (j+1)) i4).map bT)))=DV.ax 5 ((ck (S.drop (j+1)) i4).map bT):=by
           rw [Int.toNat_natCast,List.take_length]; rfl
          cases hh
          ·refine ⟨fun _=>ei,.ax 5 (bT x0::(ck (S.drop (j+1)) i4).map bT),fun _=>iF,?_⟩
           refine .inr (.inr ⟨.ax 5 (bT x0::(ck (S.drop (j+1)) i4).map bT),fun _=>iF,⟨by simp,by simp; omega,by simp⟩,?_⟩)
           refine ⟨.ax 5 (bT x0::(ck (S.drop (j+1)) i4).map bT),iF,?_⟩
           refine ⟨fun _=>by rw [List.length_set]; exact ei,[.ax 5 ((ck (S.drop (j+1)) i4).map bT)],⟨wg,tv⟩,.any,List.getElem?_set_self (by rw [List.length_map,cl]; omega),?_⟩
           refine ⟨by kernel_rfl,fun _=>⟨by simp only; omega,by simp only; omega⟩,⟨j+1,true⟩,⟨⟨rfl,rfl,rf,rf,rf,rf,rf,rfl,rf,aB (by simp),tv⟩,⟨⟨rf,rf,rf,rf,rf,rf,rfl,rfl,rfl,rfl,rfl,tv⟩,⟨rfl,rfl⟩,⟨rfl,rfl⟩,⟨rfl,rfl⟩,⟨rfl,b4⟩,⟨rfl,rfl⟩,⟨rf,rf,rf,rf,rf,rf,rf,tv⟩,tv⟩,rfl,rfl⟩,⟨by simp only; omega,by simp⟩,by simp only; omega⟩
          ·refine ⟨fun _=>ei,.ax 5 (bT x0::(ck (S.drop (j+1)) i4).map bT),fun _=>iF,?_⟩
           refine .inr (.inr ⟨.ax 5 (bT x0::(ck (S.drop (j+1)) i4).map bT),fun _=>iF,⟨by simp,by simp; omega,by simp⟩,?_⟩)
           refine ⟨.ax 5 (bT x0::(ck (S.drop (j+1)) i4).map bT),iF,?_⟩
           refine ⟨fun _=>by rw [List.length_set]; exact ei,[.ax 5 ((ck (S.drop (j+1)) i4).map bT)],⟨wg,tv⟩,.any,List.getElem?_set_self (by rw [List.length_map,cl]; omega),?_⟩
           refine ⟨by kernel_rfl,fun _=>⟨by simp only; omega,by simp only; omega⟩,⟨j+1,true⟩,⟨⟨rfl,rfl,rf,rf,rf,rf,rf,rfl,rf,aB (by simp),tv⟩,⟨⟨rf,rf,rf,rf,rf,rf,rfl,rfl,rfl,rfl,rfl,tv⟩,⟨rfl,rfl⟩,⟨rfl,rfl⟩,⟨rfl,rfl⟩,⟨rfl,b4⟩,⟨rfl,rfl⟩,⟨rf,rf,rf,rf,rf,rf,rf,tv⟩,tv⟩,rfl,rfl⟩,⟨by simp only; omega,by simp⟩,by simp only; omega⟩
         ·have du:j=lv:=by have:=of_decide_eq_false du; simp only [Int.ofNat_lt] at this; omega
          subst du
          have uM:DV.ax 1 (List.drop ((j:Int)).toNat (List.take (((s1.bQ.map I).length:Nat):Int).toNat (s1.bQ.map I)))=vK.iJ (s1.bQ.drop j):=by
           rw [Int.toNat_natCast,Int.toNat_natCast,List.take_length,←List.map_drop]; rfl
          refine .inl ⟨⟨by simp,by simp only [Option.getD_some,Option.getD_none,List.length_map,k1,k3]; omega,by simp⟩,fun _=>⟨by simp only; omega,by simp only; omega⟩,?_⟩
          refine ⟨fun _=>?_,fun h9=>by cases h9⟩
          have k7:dp s1 S j=dp s S j:=by unfold dp; rw [k2]
          obtain ⟨t1,t2,t3,t4,t5,t6⟩:=Of A it n c hA rfl
          obtain ⟨i5,rfl⟩:∃i5:Nat,it=(i5:Int):=⟨it.toNat,by omega⟩
          have t7:=il s S j i5 (by omega)
          have t8:=Sm j i5
          have t9:(ck (S.drop j) i5).length≤1000:=by
           unfold ck; rw [List.length_map]
           refine Nat.le_trans (List.length_filter_le ..) ?_
           rw [List.length_drop]; have:=h.len; omega
          have Cl:bl Tryz.prog 54 [.ptr 0 0,.dv (I i5),.agg [.dv (I st.tick),.dv (I n),.dv (I c),.dv (I 0),.dv (I 0)]] 6 (vK false (df s1 S j)) 0 [] (wV false true true (qH (df s1 S j) i5 (ck (S.drop j) i5) st.tick n c)):=by
           cases Kz:(s.sl.getD i5 (true,[])).1 with
           | true =>
            have So:ck (S.drop j) i5=[]:=lO (by have h1:=h.Oc; have hg:=List.getElem?_eq_getElem (l:=s.sl) (i:=i5) (by omega); rw [List.getD_eq_getElem?_getD,hg] at Kz; generalize s.sl[i5]=q at hg Kz; obtain ⟨f7,l7⟩:=q; rw [←h.sl _ _ _ hg]; exact h.sf _ _ _ hg Kz) j
            rw [So]
            exact v7 _ i5 (by show (dp s1 S j)[i5]?=_; rw [k7,t7,Kz,So]) _ _ _ ⟨by simp only [df]; omega,by simp only [df]; omega⟩ (by simp only [df,List.length_drop,k1]; omega)
           | false =>
            exact v8 _ i5 _ (by show (dp s1 S j)[i5]?=_; rw [k7,t7,Kz]) _ _ _ ⟨by simp only [df]; omega,by simp only [df]; omega⟩ (by simp only [df,List.length_drop,k1]; omega) t9 ⟨t8.1,t8.2.1⟩ t8.2.2 ⟨by omega,by omega⟩ ⟨by omega,by omega⟩
          have r9:lL s S st (.ok A) [.dv (I 0)] (wV false true true { qH (df s1 S j) i5 (ck (S.drop j) i5) st.tick n c with last:=st.tick }):=by
           refine ⟨done,k6,rfl,?_⟩
           rw [eT,←k5,Gq,om]
           have h0:cL s S st s1={ qH (df s1 S j) i5 (ck (S.drop j) i5) st.tick n c with last:=st.tick }:=by unfold cL; rw [Gq,om]; rfl
           rw [h0]; simp
          cases hh
          ·refine .inr ⟨[0,1,2,3,4,5],[.ptr 0 0,.dv (I i5),.agg [.dv (I st.tick),.dv (I n),.dv (I c),.dv (I 0),.dv (I 0)]],vK false (df s1 S j),0,_,_,Cl,by kernel_rfl,by kernel_rfl,⟨rfl,rf,⟨rf,rf,rf,rf,rf,tv⟩,tv⟩,⟨⟨rf,rf,rf,rf,rf,rf,rfl,rfl,rfl,rfl,rfl,tv⟩,⟨rfl,rfl⟩,⟨rfl,rfl⟩,⟨rfl,rfl⟩,⟨rfl,by rw [←k7]; rfl⟩,⟨rfl,uM⟩,tv⟩,?_⟩
           exact ⟨_,_,r9,by kernel_rfl,⟨rf,tv⟩,⟨rf,rf,rf,rf,rf,rf,rfl,rfl,rfl,rfl,rfl,tv⟩,⟨rfl,rfl⟩,⟨rfl,rfl⟩,⟨rfl,rfl⟩,⟨rfl,rfl⟩,⟨rfl,rfl⟩,tv⟩
          ·refine .inr ⟨[0,1,2,3,4,5],[.ptr 0 0,.dv (I i5),.agg [.dv (I st.tick),.dv (I n),.dv (I c),.dv (I 0),.dv (I 0)]],vK false (df s1 S j),0,_,_,Cl,by kernel_rfl,by kernel_rfl,⟨rfl,rf,⟨rf,rf,rf,rf,rf,tv⟩,tv⟩,⟨⟨rf,rf,rf,rf,rf,rf,rfl,rfl,rfl,rfl,rfl,tv⟩,⟨rfl,rfl⟩,⟨rfl,rfl⟩,⟨rfl,rfl⟩,⟨rfl,by rw [←k7]; rfl⟩,⟨rfl,uM⟩,tv⟩,?_⟩
           exact ⟨_,_,r9,by kernel_rfl,⟨rf,tv⟩,⟨rf,rf,rf,rf,rf,rf,rfl,rfl,rfl,rfl,rfl,tv⟩,⟨rfl,rfl⟩,⟨rfl,rfl⟩,⟨rfl,rfl⟩,⟨rfl,rfl⟩,⟨rfl,rfl⟩,tv⟩
       ·refine .inr (.inl ⟨fun _=>⟨by simp,by simp,by simp only [k1,List.length_map,Option.getD_some]; omega⟩,?_⟩)
        refine ⟨Sj,Tv s s1 S st it n c true lv true,fun z=>z.j≤lv∧z.h=decide (0<z.j),fun z=>lv - z.j,⟨0,false⟩,fun z=>by obtain ⟨z1,z2⟩:=z; cases z2 <;> rfl,?_,?_,?_⟩
        ·exact ⟨⟨rfl,rfl,rf,rf,rf,rf,rf,rfl,rf,rf,tv⟩,⟨⟨rf,rf,rf,rf,rf,rf,rfl,rfl,rfl,rfl,rfl,tv⟩,⟨rfl,rfl⟩,⟨rfl,rfl⟩,⟨rfl,rfl⟩,⟨rfl,by rw [Sn]⟩,⟨rfl,rfl⟩,⟨rf,rf,rf,rf,rf,rf,rf,tv⟩,tv⟩,rfl,rfl⟩
        ·exact ⟨Nat.zero_le _,rfl⟩
        ·rintro ⟨j,hh⟩ ⟨q1,q2⟩
         simp only at q1 q2
         refine ⟨fun aJ=>?_,fun du=>?_⟩
         ·have aJ:j<lv:=by have:=of_decide_eq_true aJ; simp only [Int.ofNat_lt] at this; exact this
          obtain ⟨⟨i4,x0⟩,ka⟩:∃q,S[j]?=some q:=⟨_,List.getElem?_eq_getElem (by omega)⟩
          have P7:i4<4:=h.it _ (List.mem_of_getElem? ka)
          have pj:(s1.bQ.map I)[0+((j:Int)).toNat]?=some (I (i4:Int)):=by rw [k1,h.bQ,List.map_map,List.getElem?_map,Nat.zero_add,Int.toNat_natCast,ka]; rfl
          obtain ⟨e1,e2⟩:=n6 h ka
          have iF:((dp s S j).map mA)[((i4:Int)).toNat]?=some (.ax 5 (bT x0::(ck (S.drop (j+1)) i4).map bT)):=by rw [List.getElem?_map,Int.toNat_natCast,e1]; rfl
          refine ⟨fun _=>⟨by simp only; omega,by simp only; omega⟩,I (i4:Int),fun _=>pj,?_⟩
          have ei:(0:Int)≤(i4:Int)∧(i4:Int)<(((dp s S j).map mA).length:Int):=⟨by omega,by rw [List.length_map,cl]; omega⟩
          have b4:DV.ax 1 ((((dp s S j).map mA).set ((i4:Int)).toNat .any).set ((i4:Int)).toNat (.ax 5 ((ck (S.drop (j+1)) i4).map bT)))=.ax 1 ((dp s S (j+1)).map mA):=by
           rw [List.set_set,Int.toNat_natCast,e2,List.map_set]; rfl
          have wg:DV.ax 5 (List.drop 1 (List.take ((((bT x0::(ck (S.drop (j+1)) i4).map bT).length:Nat):Int)).toNat (bT x0::(ck (S.drop (j+1)) i4).map bT)))=DV.ax 5 ((ck (S.drop (j+1)) i4).map bT):=by
           rw [Int.toNat_natCast,List.take_length]; rfl
          cases hh
          ·refine ⟨fun _=>ei,.ax 5 (bT x0::(ck (S.drop (j+1)) i4).map bT),fun _=>iF,?_⟩
           refine .inr (.inr ⟨.ax 5 (bT x0::(ck (S.drop (j+1)) i4).map bT),fun _=>iF,⟨by simp,by simp; omega,by simp⟩,?_⟩)
           refine ⟨.ax 5 (bT x0::(ck (S.drop (j+1)) i4).map bT),iF,?_⟩
           refine ⟨fun _=>by rw [List.length_set]; exact ei,[.ax 5 ((ck (S.drop (j+1)) i4).map bT)],⟨wg,tv⟩,.any,List.getElem?_set_self (by rw [List.length_map,cl]; omega),?_⟩
           refine ⟨by kernel_rfl,fun _=>⟨by simp only; omega,by simp only; omega⟩,⟨j+1,true⟩,⟨⟨rfl,rfl,rf,rf,rf,rf,rf,rfl,rf,aB (by simp),tv⟩,⟨⟨rf,rf,rf,rf,rf,rf,rfl,rfl,rfl,rfl,rfl,tv⟩,⟨rfl,rfl⟩,⟨rfl,rfl⟩,⟨rfl,rfl⟩,⟨rfl,b4⟩,⟨rfl,rfl⟩,⟨rf,rf,rf,rf,rf,rf,rf,tv⟩,tv⟩,rfl,rfl⟩,⟨by simp only; omega,by simp⟩,by simp only; omega⟩
          ·refine ⟨fun _=>ei,.ax 5 (bT x0::(ck (S.drop (j+1)) i4).map bT),fun _=>iF,?_⟩
           refine .inr (.inr ⟨.ax 5 (bT x0::(ck (S.drop (j+1)) i4).map bT),fun _=>iF,⟨by simp,by simp; omega,by simp⟩,?_⟩)
           refine ⟨.ax 5 (bT x0::(ck (S.drop (j+1)) i4).map bT),iF,?_⟩
           refine ⟨fun _=>by rw [List.length_set]; exact ei,[.ax 5 ((ck (S.drop (j+1)) i4).map bT)],⟨wg,tv⟩,.any,List.getElem?_set_self (by rw [List.length_map,cl]; omega),?_⟩
           refine ⟨by kernel_rfl,fun _=>⟨by simp only; omega,by simp only; omega⟩,⟨j+1,true⟩,⟨⟨rfl,rfl,rf,rf,rf,rf,rf,rfl,rf,aB (by simp),tv⟩,⟨⟨rf,rf,rf,rf,rf,rf,rfl,rfl,rfl,rfl,rfl,tv⟩,⟨rfl,rfl⟩,⟨rfl,rfl⟩,⟨rfl,rfl⟩,⟨rfl,b4⟩,⟨rfl,rfl⟩,⟨rf,rf,rf,rf,rf,rf,rf,tv⟩,tv⟩,rfl,rfl⟩,⟨by simp only; omega,by simp⟩,by simp only; omega⟩
         ·have du:j=lv:=by have:=of_decide_eq_false du; simp only [Int.ofNat_lt] at this; omega
          subst du
          have uM:DV.ax 1 (List.drop ((j:Int)).toNat (List.take (((s1.bQ.map I).length:Nat):Int).toNat (s1.bQ.map I)))=vK.iJ (s1.bQ.drop j):=by
           rw [Int.toNat_natCast,Int.toNat_natCast,List.take_length,←List.map_drop]; rfl
          refine .inl ⟨⟨by simp,by simp only [Option.getD_some,Option.getD_none,List.length_map,k1,k3]; omega,by simp⟩,fun _=>⟨by simp only; omega,by simp only; omega⟩,?_⟩
          refine ⟨fun _=>?_,fun h9=>by cases h9⟩
          have k7:dp s1 S j=dp s S j:=by unfold dp; rw [k2]
          obtain ⟨t1,t2,t3,t4,t5,t6⟩:=Of A it n c hA rfl
          obtain ⟨i5,rfl⟩:∃i5:Nat,it=(i5:Int):=⟨it.toNat,by omega⟩
          have t7:=il s S j i5 (by omega)
          have t8:=Sm j i5
          have t9:(ck (S.drop j) i5).length≤1000:=by
           unfold ck; rw [List.length_map]
           refine Nat.le_trans (List.length_filter_le ..) ?_
           rw [List.length_drop]; have:=h.len; omega
          have Cl:bl Tryz.prog 54 [.ptr 0 0,.dv (I i5),.agg [.dv (I st.tick),.dv (I n),.dv (I c),.dv (I 0),.dv (I 0)]] 6 (vK false (df s1 S j)) 0 [] (wV false true true (qH (df s1 S j) i5 (ck (S.drop j) i5) st.tick n c)):=by
           cases Kz:(s.sl.getD i5 (true,[])).1 with
           | true =>
            have So:ck (S.drop j) i5=[]:=lO (by have h1:=h.Oc; have hg:=List.getElem?_eq_getElem (l:=s.sl) (i:=i5) (by omega); rw [List.getD_eq_getElem?_getD,hg] at Kz; generalize s.sl[i5]=q at hg Kz; obtain ⟨f7,l7⟩:=q; rw [←h.sl _ _ _ hg]; exact h.sf _ _ _ hg Kz) j
            rw [So]
            exact v7 _ i5 (by show (dp s1 S j)[i5]?=_; rw [k7,t7,Kz,So]) _ _ _ ⟨by simp only [df]; omega,by simp only [df]; omega⟩ (by simp only [df,List.length_drop,k1]; omega)
           | false =>
            exact v8 _ i5 _ (by show (dp s1 S j)[i5]?=_; rw [k7,t7,Kz]) _ _ _ ⟨by simp only [df]; omega,by simp only [df]; omega⟩ (by simp only [df,List.length_drop,k1]; omega) t9 ⟨t8.1,t8.2.1⟩ t8.2.2 ⟨by omega,by omega⟩ ⟨by omega,by omega⟩
          have r9:lL s S st (.ok A) [.dv (I 0)] (wV true true true { qH (df s1 S j) i5 (ck (S.drop j) i5) st.tick n c with last:=st.tick }):=by
           refine ⟨done,k6,rfl,?_⟩
           rw [eT,←k5,Gq,om]
           have h0:cL s S st s1={ qH (df s1 S j) i5 (ck (S.drop j) i5) st.tick n c with last:=st.tick }:=by unfold cL; rw [Gq,om]; rfl
           rw [h0]; simp
          cases hh
          ·refine .inr ⟨[0,1,2,3,4,5],[.ptr 0 0,.dv (I i5),.agg [.dv (I st.tick),.dv (I n),.dv (I c),.dv (I 0),.dv (I 0)]],vK false (df s1 S j),0,_,_,Cl,by kernel_rfl,by kernel_rfl,⟨rfl,rf,⟨rf,rf,rf,rf,rf,tv⟩,tv⟩,⟨⟨rf,rf,rf,rf,rf,rf,rfl,rfl,rfl,rfl,rfl,tv⟩,⟨rfl,rfl⟩,⟨rfl,rfl⟩,⟨rfl,rfl⟩,⟨rfl,by rw [←k7]; rfl⟩,⟨rfl,uM⟩,tv⟩,?_⟩
           exact ⟨_,_,r9,by kernel_rfl,⟨rf,tv⟩,⟨rf,rf,rf,rf,rf,rf,rfl,rfl,rfl,rfl,rfl,tv⟩,⟨rfl,rfl⟩,⟨rfl,rfl⟩,⟨rfl,rfl⟩,⟨rfl,rfl⟩,⟨rfl,rfl⟩,tv⟩
          ·refine .inr ⟨[0,1,2,3,4,5],[.ptr 0 0,.dv (I i5),.agg [.dv (I st.tick),.dv (I n),.dv (I c),.dv (I 0),.dv (I 0)]],vK false (df s1 S j),0,_,_,Cl,by kernel_rfl,by kernel_rfl,⟨rfl,rf,⟨rf,rf,rf,rf,rf,tv⟩,tv⟩,⟨⟨rf,rf,rf,rf,rf,rf,rfl,rfl,rfl,rfl,rfl,tv⟩,⟨rfl,rfl⟩,⟨rfl,rfl⟩,⟨rfl,rfl⟩,⟨rfl,by rw [←k7]; rfl⟩,⟨rfl,uM⟩,tv⟩,?_⟩
           exact ⟨_,_,r9,by kernel_rfl,⟨rf,tv⟩,⟨rf,rf,rf,rf,rf,rf,rfl,rfl,rfl,rfl,rfl,tv⟩,⟨rfl,rfl⟩,⟨rfl,rfl⟩,⟨rfl,rfl⟩,⟨rfl,rfl⟩,⟨rfl,rfl⟩,tv⟩
      ·simp only at iy
       rw [List.getElem?_map] at iy
       obtain ⟨⟨k,x⟩,hk,rfl⟩:∃p,left[pos]?=some p∧cc=qF p:=by
        cases hq:left[pos]? with
        | none=>rw [hq] at iy; cases iy
        | some p=>rw [hq] at iy; exact ⟨p,rfl,by simpa using iy.symm⟩
       refine ⟨lM x,?_⟩
       have AK:(done++(k,x)::left.eraseIdx pos).Perm A:=((pq hk).append_left done).symm.trans g1
       obtain ⟨ii,bU,UZ⟩:=iR A hA done k x _ AK
       have cK:=B9 (aI s done) k ii x bU
       have B2:cF (aI s done) k ii x=aI s (done++[(k,x)]):=by
        unfold aI; rw [List.foldl_append]; show cF _ k ii x=cF _ k k.2.toNat x
        rw [show k.2.toNat=ii by have:=bU.it; omega]
       rw [B2,UZ] at cK
       have sC:fC s (done++[(k,x)])=(f || cu s k x):=by unfold fC; rw [List.any_append,g2]; simp [fC]
       cases f
       ·cases Kx:cu s k x
        ·rw [Kx] at cK sC
         refine .inr ⟨[0,1,2,3,4,5],[.ptr 0 0,.agg [.dv (I k.1),.dv (I k.2)],.dv (I x)],vK false (aI s done),0,_,_,cK,by kernel_rfl,by kernel_rfl,⟨rfl,⟨rf,rf,tv⟩,rf,tv⟩,⟨⟨rf,rf,rf,rf,rf,rf,rfl,rfl,rfl,rfl,rfl,tv⟩,⟨rfl,rfl⟩,⟨rfl,rfl⟩,⟨rfl,rfl⟩,⟨rfl,rfl⟩,⟨rfl,rfl⟩,tv⟩,?_⟩
         exact ⟨⟨left.eraseIdx pos,done++[(k,x)],false⟩,⟨⟨rfl,rfl,rf,rf,rf,rf,rf,rfl,tv⟩,⟨⟨rf,rf,rf,rf,rf,rf,rfl,rfl,rfl,rfl,rfl,tv⟩,⟨rfl,rfl⟩,⟨rfl,rfl⟩,⟨rfl,rfl⟩,⟨rfl,rfl⟩,⟨rfl,rfl⟩,⟨rf,rf,rf,rf,rf,rf,rf,tv⟩,tv,⟨rfl,rfl,rfl,cN _ _,.inl rfl,tv⟩,tv⟩,rfl,rfl⟩,⟨by simp only [List.append_assoc]; exact AK,sC.symm⟩,by simp only; have:=eD hk; omega⟩
        ·rw [Kx] at cK sC
         refine .inr ⟨[0,1,2,3,4,5],[.ptr 0 0,.agg [.dv (I k.1),.dv (I k.2)],.dv (I x)],vK false (aI s done),0,_,_,cK,by kernel_rfl,by kernel_rfl,⟨rfl,⟨rf,rf,tv⟩,rf,tv⟩,⟨⟨rf,rf,rf,rf,rf,rf,rfl,rfl,rfl,rfl,rfl,tv⟩,⟨rfl,rfl⟩,⟨rfl,rfl⟩,⟨rfl,rfl⟩,⟨rfl,rfl⟩,⟨rfl,rfl⟩,tv⟩,?_⟩
         exact ⟨⟨left.eraseIdx pos,done++[(k,x)],true⟩,⟨⟨rfl,rfl,rf,rf,rf,rf,rf,rfl,tv⟩,⟨⟨rf,rf,rf,rf,rf,rf,rfl,rfl,rfl,rfl,rfl,tv⟩,⟨rfl,rfl⟩,⟨rfl,rfl⟩,⟨rfl,rfl⟩,⟨rfl,rfl⟩,⟨rfl,rfl⟩,⟨rf,rf,rf,rf,rf,rf,rf,tv⟩,tv,⟨rfl,rfl,rfl,cN _ _,.inl rfl,tv⟩,tv⟩,rfl,rfl⟩,⟨by simp only [List.append_assoc]; exact AK,sC.symm⟩,by simp only; have:=eD hk; omega⟩
       ·cases Kx:cu s k x
        ·rw [Kx] at cK sC
         refine .inr ⟨[0,1,2,3,4,5],[.ptr 0 0,.agg [.dv (I k.1),.dv (I k.2)],.dv (I x)],vK false (aI s done),0,_,_,cK,by kernel_rfl,by kernel_rfl,⟨rfl,⟨rf,rf,tv⟩,rf,tv⟩,⟨⟨rf,rf,rf,rf,rf,rf,rfl,rfl,rfl,rfl,rfl,tv⟩,⟨rfl,rfl⟩,⟨rfl,rfl⟩,⟨rfl,rfl⟩,⟨rfl,rfl⟩,⟨rfl,rfl⟩,tv⟩,?_⟩
         exact ⟨⟨left.eraseIdx pos,done++[(k,x)],true⟩,⟨⟨rfl,rfl,rf,rf,rf,rf,rf,rfl,tv⟩,⟨⟨rf,rf,rf,rf,rf,rf,rfl,rfl,rfl,rfl,rfl,tv⟩,⟨rfl,rfl⟩,⟨rfl,rfl⟩,⟨rfl,rfl⟩,⟨rfl,rfl⟩,⟨rfl,rfl⟩,⟨rf,rf,rf,rf,rf,rf,rf,tv⟩,tv,⟨rfl,rfl,rfl,cN _ _,.inl rfl,tv⟩,tv⟩,rfl,rfl⟩,⟨by simp only [List.append_assoc]; exact AK,sC.symm⟩,by simp only; have:=eD hk; omega⟩
        ·rw [Kx] at cK sC
         refine .inr ⟨[0,1,2,3,4,5],[.ptr 0 0,.agg [.dv (I k.1),.dv (I k.2)],.dv (I x)],vK false (aI s done),0,_,_,cK,by kernel_rfl,by kernel_rfl,⟨rfl,⟨rf,rf,tv⟩,rf,tv⟩,⟨⟨rf,rf,rf,rf,rf,rf,rfl,rfl,rfl,rfl,rfl,tv⟩,⟨rfl,rfl⟩,⟨rfl,rfl⟩,⟨rfl,rfl⟩,⟨rfl,rfl⟩,⟨rfl,rfl⟩,tv⟩,?_⟩
         exact ⟨⟨left.eraseIdx pos,done++[(k,x)],true⟩,⟨⟨rfl,rfl,rf,rf,rf,rf,rf,rfl,tv⟩,⟨⟨rf,rf,rf,rf,rf,rf,rfl,rfl,rfl,rfl,rfl,tv⟩,⟨rfl,rfl⟩,⟨rfl,rfl⟩,⟨rfl,rfl⟩,⟨rfl,rfl⟩,⟨rfl,rfl⟩,⟨rf,rf,rf,rf,rf,rf,rf,tv⟩,tv,⟨rfl,rfl,rfl,cN _ _,.inl rfl,tv⟩,tv⟩,rfl,rfl⟩,⟨by simp only [List.append_assoc]; exact AK,sC.symm⟩,by simp only; have:=eD hk; omega⟩
    ·simp only at iy
     rw [List.getElem?_map] at iy
     obtain ⟨⟨k,x⟩,hk,rfl⟩:∃p,left[pos]?=some p∧cc=qF p:=by
      cases hq:left[pos]? with
      | none=>rw [hq] at iy; cases iy
      | some p=>rw [hq] at iy; exact ⟨p,rfl,by simpa using iy.symm⟩
     refine ⟨lM x,?_⟩
     refine ⟨gT,wU k,rfl,rfl,I (hv s.H k),(bm s.H k).isSome,fun _=>Cc s.H k,Gm s.H k,rfl,?_⟩
     refine ⟨by kernel_rfl,?_⟩
     repeat first | refine ⟨id,?_⟩ | refine ⟨fun _ h=>cx h,?_⟩ | refine ⟨fun _ h=>ay h,?_⟩ | refine ⟨fun h=>⟨h,fun h2=>aQ h h2⟩,?_⟩ | refine ⟨fun h=>⟨h,fun h2=>aF h h2⟩,?_⟩
     have Dr:=po s.H hk
     have hle:=eD hk
     refine ⟨fun hq=>?_,fun hq=>?_⟩
     ·have hd:Cj s.H (k,x)=1:=by
       show (bif (bif hv s.H k == 0 then x != 0 else false) then (1:Int) else _)=1
       rw [show (bif hv s.H k == 0 then x != 0 else false)=true from hq]; rfl
      have h0:hv s.H k=0:=by
       cases hz:(hv s.H k == 0) with
       | true=>simpa using hz
       | false=>rw [hz] at hq; cases hq
      refine ⟨fun _=>⟨by simp only; omega,by simp only; omega⟩,?_⟩
      repeat first | refine ⟨id,?_⟩ | refine ⟨fun _ h=>cx h,?_⟩ | refine ⟨fun _ h=>ay h,?_⟩ | refine ⟨fun h=>⟨h,fun h2=>aQ h h2⟩,?_⟩ | refine ⟨fun h=>⟨h,fun h2=>aF h h2⟩,?_⟩
      refine ⟨fun hr=>absurd hr (by rw [h0]; simp),fun _=>?_⟩
      exact ⟨⟨left.eraseIdx pos,sz+1⟩,⟨⟨rfl,rfl,rfl,rf,rf,rf,rf,rf,rf,rfl,tv⟩,⟨⟨rf,rf,rf,rf,rf,rf,rfl,rfl,rfl,rfl,rfl,tv⟩,⟨rfl,rfl⟩,⟨rfl,rfl⟩,⟨rfl,rfl⟩,⟨rfl,rfl⟩,⟨rfl,rfl⟩,⟨rf,rf,rf,rf,rf,rf,rf,tv⟩,tv,⟨rfl,rfl,rfl,cN _ _,.inl rfl,tv⟩,tv⟩,rfl,rfl⟩,⟨by simp only; omega,by simp only; omega,by simp only; omega,by simp only; omega⟩,by simp only; omega⟩
     ·repeat first | refine ⟨id,?_⟩ | refine ⟨fun _ h=>cx h,?_⟩ | refine ⟨fun _ h=>ay h,?_⟩ | refine ⟨fun h=>⟨h,fun h2=>aQ h h2⟩,?_⟩ | refine ⟨fun h=>⟨h,fun h2=>aF h h2⟩,?_⟩
      refine ⟨fun hr=>?_,fun hr=>?_⟩
      ·have hd:Cj s.H (k,x)=-1:=by
        show (bif (bif hv s.H k == 0 then x != 0 else false) then (1:Int) else bif (bif hv s.H k != 0 then x == 0 else false) then -1 else 0)=-1
        rw [show (bif hv s.H k == 0 then x != 0 else false)=false from hq,show (bif hv s.H k != 0 then x == 0 else false)=true from hr]; rfl
       refine ⟨fun _=>⟨by simp only; omega,by simp only; omega⟩,?_⟩
       exact ⟨⟨left.eraseIdx pos,sz - 1⟩,⟨⟨rfl,rfl,rfl,rf,rf,rf,rf,rf,rf,rfl,tv⟩,⟨⟨rf,rf,rf,rf,rf,rf,rfl,rfl,rfl,rfl,rfl,tv⟩,⟨rfl,rfl⟩,⟨rfl,rfl⟩,⟨rfl,rfl⟩,⟨rfl,rfl⟩,⟨rfl,rfl⟩,⟨rf,rf,rf,rf,rf,rf,rf,tv⟩,tv,⟨rfl,rfl,rfl,cN _ _,.inl rfl,tv⟩,tv⟩,rfl,rfl⟩,⟨by simp only; omega,by simp only; omega,by simp only; omega,by simp only; omega⟩,by simp only; omega⟩
      ·have hd:Cj s.H (k,x)=0:=by
        show (bif (bif hv s.H k == 0 then x != 0 else false) then (1:Int) else bif (bif hv s.H k != 0 then x == 0 else false) then -1 else 0)=0
        rw [show (bif hv s.H k == 0 then x != 0 else false)=false from hq,show (bif hv s.H k != 0 then x == 0 else false)=false from hr]; rfl
       exact ⟨⟨left.eraseIdx pos,sz⟩,⟨⟨rfl,rfl,rfl,rf,rf,rf,rf,rf,rf,rfl,tv⟩,⟨⟨rf,rf,rf,rf,rf,rf,rfl,rfl,rfl,rfl,rfl,tv⟩,⟨rfl,rfl⟩,⟨rfl,rfl⟩,⟨rfl,rfl⟩,⟨rfl,rfl⟩,⟨rfl,rfl⟩,⟨rf,rf,rf,rf,rf,rf,rf,tv⟩,tv,⟨rfl,rfl,rfl,cN _ _,.inl rfl,tv⟩,tv⟩,rfl,rfl⟩,⟨by simp only; omega,by simp only; omega,by simp only; omega,by simp only; omega⟩,by simp only; omega⟩
end Go.Proofs.YtpbdohkbiklflaaGreatDoor
