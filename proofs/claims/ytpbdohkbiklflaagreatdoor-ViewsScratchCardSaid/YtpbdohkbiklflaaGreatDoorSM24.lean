import Derived.Test.YtpbdohkbiklflaaGreatDoorSM23
set_option linter.unusedVariables false
set_option linter.unusedSimpArgs false
set_option linter.unusedSectionVars false
namespace Go.Proofs.YtpbdohkbiklflaaGreatDoor
open Go.TM
variable [cQ]
set_option maxRecDepth 100000
def aF (s:Vs) (es:HM):Vs:=es.foldl (fun s e=>cu s e.1 e.1.2.toNat e.2) s
def I8 (H:HM) (e:Ky × Int):Int:=bif bif decide (hv H e.1=0) then !(decide (e.2=0)) else false then 1 else bif bif !(decide (hv H e.1=0)) then decide (e.2=0) else false then -1 else 0
def mM (H:HM) (es:HM):Int:=(es.map (I8 H)).foldr (·+·) 0
def fm (s:Vs) (es:HM):Bool:=es.any fun e=>ck s e.1 e.2
def c7 (s:Vs) (S:SS) (j:Nat):List (Bool × List Sl):=(List.range 4).map fun i=>((s.sl.getD i (true,[])).1,bL (S.drop j) i)
def cS (s:Vs) (S:SS) (lv:Nat):Vs:={ s with sl:=c7 s S lv,bD:=s.bD.drop lv,work:=s.work+lv }
def I9 (s:Vs) (S:SS) (lv:Nat) (S3:Bool) (it:Nat) (tick n c:Int):Vs :=
 let s2:=cS s S lv
 let s3:=bif S3 then nV s2 it (bL (S.drop lv) it) tick n c else s2
 {s3 with last:=tick }
inductive RA where
 | err (e:Int)
 | ok (A:HM)
def Lc (s:Vs) (S:SS) (st:St):Int:=(s.H.length:Int)+(s.bD.length:Int) - (fE S (st.tick - s.au):Int)+(bif (dw s.aZ st).2.2.2 then 1 else 0)
def eP (s:Vs) (S:SS) (st:St):RA :=
 if (bif decide (st.tick<s.last) then true else decide (1099511627776<st.tick))=true then .err 1 else
 match kC s.H [] st.mv with
 | .err e=>.err e
 | .ok A=>if s.aU<Lc s S st+mM s.H A then .err 22 else .ok A
def cn (s:Vs) (S:SS) (st:St) (s1:Vs):Vs:=I9 s1 S (fE S (st.tick - s.au)) (dw s.aZ st).2.2.2 (dw s.aZ st).1.toNat st.tick (dw s.aZ st).2.1 (dw s.aZ st).2.2.1
def lk (s:Vs) (S:SS) (st:St):RA→List AV→af→Prop
 | .err e,rs,k=>rs=[.dv (I e)]∧k=vK false s
 | .ok A,rs,k=>∃done:HM,done.Perm A∧rs=[.dv (I 0)]∧k=vS (fm s A) (decide (0<fE S (st.tick - s.au)) || (dw s.aZ st).2.2.2) true (cn s S st (aF s done))
def S4 (st:St):ak:=.cells [.dv (I st.id),.dv (I st.kind),.dv (I st.I6),.dv (I st.tick),.dv (I st.Oc),.dv (I st.times),.dv (A8 st.mv)]
theorem ln (x:Int):(I x).bt:=by
 intro d hd
 simp [DV.cells] at hd; subst hd; rfl
theorem cG {α β:Type} {f:α→β}:∀(l:List α) (i:Nat),(l.map f).eraseIdx i=(l.eraseIdx i).map f
 | [],_=>rfl
 | _::_,0=>rfl
 | x::l,i+1=>by simp only [List.map_cons,List.eraseIdx_cons_succ]; rw [cG l i]
theorem oM (H:HM) {e:Ky × Int}:∀{l:HM} {i:Nat},l[i]?=some e→mM H l=I8 H e+mM H (l.eraseIdx i)
 | [],_,h=>by simp at h
 | x::l,0,h=>by simp at h; subst h; rfl
 | x::l,i+1,h=>by
  have:=oM H (l:=l) (i:=i) (by simpa using h)
  show I8 H x+mM H l=I8 H e+(I8 H x+mM H (l.eraseIdx i))
  omega
theorem er {α:Type} {l:List α} {i:Nat} {e:α} (h:l[i]?=some e):(l.eraseIdx i).length+1=l.length:=by
 have:=(List.getElem?_eq_some_iff.1 h).1
 rw [List.length_eraseIdx,if_pos this]; omega
structure S5 where
 left:HM
 sz:Int
def Uk (s:Vs) (st:St) (A:HM) (it n c:Int) (b:Bool) (lv:Nat) (z:S5):bN:=⟨10,[(0,.ptr 0 0),(3,.ptr 6 0),(5,.own 8 0 0 []),(7,.dv (I it)),(8,.dv (I n)),(9,.dv (I c)),(10,.dv (B b)),(11,.dv (I lv)),(12,.dv (I z.sz)),(62,.ptr 9 0)],vK false s++[(6,S4 st),(8,.held),(9,.iF 8 [] (.omap dL (A.map oY)) (z.left.map oY) none)]⟩
theorem F4 (s:Vs) (k:Ky) (i:Nat) (x:Int):(cu s k i x).bD=s.bD:=by
 unfold cu; split <;> (try rfl) <;> (simp only; split <;> rfl)
theorem Ld (s:Vs) (k:Ky) (i:Nat) (x:Int):(cu s k i x).sl=s.sl:=by
 unfold cu; split <;> (try rfl) <;> (simp only; split <;> rfl)
theorem ji (s:Vs) (es:HM):(aF s es).bD=s.bD:=by
 unfold aF
 induction es generalizing s with
 | nil=>rfl
 | cons e r ih=>rw [List.foldl_cons,ih,F4]
theorem mN (s:Vs) (es:HM):(aF s es).sl=s.sl:=by
 unfold aF
 induction es generalizing s with
 | nil=>rfl
 | cons e r ih=>rw [List.foldl_cons,ih,Ld]
theorem q7 (s:Vs) (k:Ky) (i:Nat) (x:Int):s.work≤(cu s k i x).work∧(cu s k i x).work≤s.work+1:=by
 unfold cu; split
 ·omega
 ·simp only; split <;> (simp only; omega)
theorem lp (s:Vs) (es:HM):s.work≤(aF s es).work∧(aF s es).work≤s.work+es.length:=by
 unfold aF
 induction es generalizing s with
 | nil=>simp
 | cons e r ih =>
  rw [List.foldl_cons]
  have h1:=ih (cu s e.1 e.1.2.toNat e.2)
  have h2:=q7 s e.1 e.1.2.toNat e.2
  simp only [List.length_cons]
  omega
theorem Bd {α:Type} {l r:List α} (h:l.Perm r) (p:α→Bool):l.any p=r.any p:=by
 induction h with
 | nil=>rfl
 | cons x _ ih=>simp [ih]
 | swap x y l=>simp [Bool.or_left_comm]
 | trans _ _ VY VZ=>exact VY.trans VZ
theorem Ja {a b:List (Bool × List Sl)} (ha:a.length=4) (hb:b.length=4) (h:∀i,i<4→a[i]?=b[i]?):a=b:=by
 apply List.ext_getElem?
 intro i
 rcases Nat.lt_or_ge i 4 with h4 | h4
 ·exact h i h4
 ·rw [List.getElem?_eq_none (by omega),List.getElem?_eq_none (by omega)]
theorem cd (s:Vs) (S:SS) (j:Nat):(c7 s S j).length=4:=by simp [c7]
theorem gY (s:Vs) (S:SS) (j i:Nat) (hi:i<4):(c7 s S j)[i]?=some ((s.sl.getD i (true,[])).1,bL (S.drop j) i):=by
 unfold c7; rw [List.getElem?_map,List.getElem?_range hi]; rfl
theorem xy {s:Vs} {S:SS} (h:nv s S):c7 s S 0=s.sl:=by
 refine Ja (cd ..) h.I4 fun i hi=>?_
 rw [gY _ _ _ _ hi]
 have hl:i<s.sl.length:=by rw [h.I4]; exact hi
 have hx:=List.getElem?_eq_getElem hl
 rw [List.getD_eq_getElem?_getD,hx]
 generalize s.sl[i]=q at hx
 obtain ⟨f,l⟩:=q
 have:=h.sl _ _ _ hx
 rw [this]; rfl
theorem u6 {S:SS} {j i:Nat} {x:Sl} (h:S[j]?=some (i,x)) (k:Nat):bL (S.drop j) k=if i=k then x::bL (S.drop (j+1)) k else bL (S.drop (j+1)) k:=by
 have aK:=(List.getElem?_eq_some_iff.1 h).1
 have az:S.drop j=(i,x)::S.drop (j+1):=by rw [List.drop_eq_getElem_cons aK]; congr 1; rw [List.getElem?_eq_getElem aK] at h; injection h
 rw [az]
 unfold bL
 by_cases hk:i=k
 ·subst hk; simp
 ·simp [hk]
theorem nw {s:Vs} {S:SS} (h:nv s S) {j i:Nat} {x:Sl} (hx:S[j]?=some (i,x)):(c7 s S j)[i]?=some (false,x::bL (S.drop (j+1)) i)∧c7 s S (j+1)=(c7 s S j).set i (false,bL (S.drop (j+1)) i):=by
 have Og:i<4:=h.it _ (List.mem_of_getElem? hx)
 have hl:i<s.sl.length:=by rw [h.I4]; exact Og
 have hg:=List.getElem?_eq_getElem hl
 have hf:(s.sl.getD i (true,[])).1=false:=by
  rw [List.getD_eq_getElem?_getD,hg]
  generalize s.sl[i]=q at hg
  obtain ⟨f,l⟩:=q
  cases f with
  | false=>rfl
  | true =>
   have h1:=h.sl _ _ _ hg
   rw [h.sf _ _ _ hg rfl] at h1
   have h2:=u6 hx i
   have hm:x∈bL S i:=by
    unfold bL
    exact List.mem_map.2 ⟨(i,x),List.mem_filter.2 ⟨List.mem_of_getElem? hx,by simp⟩,rfl⟩
   rw [←h1] at hm
   cases hm
 constructor
 ·rw [gY _ _ _ _ Og,hf,u6 hx,if_pos rfl]
 ·refine Ja (cd ..) (by rw [List.length_set]; exact cd ..) fun k hk=>?_
  rw [gY _ _ _ _ hk]
  by_cases xm:i=k
  ·subst xm
   rw [List.getElem?_set_self (by rw [cd]; exact Og),hf]
  ·rw [List.getElem?_set_ne xm,gY _ _ _ _ hk,u6 hx,if_neg xm]
structure S6 where
 left:HM
 done:HM
 f:Bool
theorem oN {α:Type}:∀{l:List α} {i:Nat} {x:α},l[i]?=some x→l.Perm (x::l.eraseIdx i)
 | [],i,x,h=>by simp at h
 | y::l,0,x,h=>by simp at h; subst h; simp
 | y::l,i+1,x,h=>by
  simp only [List.getElem?_cons_succ] at h
  simp only [List.eraseIdx_cons_succ]
  exact ((oN h).cons y).trans (List.Perm.swap x y _)
def Ul (s:Vs) (st:St) (A:HM) (it n c:Int) (b:Bool) (lv:Nat) (z:S6):bN:=⟨11,[(0,.ptr 0 0),(3,.ptr 6 0),(7,.dv (I it)),(8,.dv (I n)),(9,.dv (I c)),(10,.dv (B b)),(11,.dv (I lv)),(97,.ptr 10 0)],vK z.f (aF s z.done)++[(6,S4 st),(8,.held),(10,.iF 8 [] (.omap dL (A.map oY)) (z.left.map oY) none)]⟩
structure Qv where
 j:Nat
 h:Bool
def RB (s s1:Vs) (S:SS) (st:St) (it n c:Int) (b:Bool) (lv:Nat) (f:Bool) (z:Qv):bN:=⟨11,[(0,.ptr 0 0),(3,.ptr 6 0),(7,.dv (I it)),(8,.dv (I n)),(9,.dv (I c)),(10,.dv (B b)),(11,.dv (I lv)),(112,.pre 5 0 0 [] 1 0 lv),(113,.dv (I lv)),(114,.dv (I z.j))],vS f z.h false { s1 with sl:=c7 s S z.j }++[(6,S4 st)]⟩
theorem u7 (m:HM) (k:Ky) (x:Int):(bS m k x).length≤m.length+1:=by
 induction m with
 | nil=>simp [bS]
 | cons p r ih =>
  simp only [bS]
  split
  ·simp
  ·simp only [List.length_cons]; omega
theorem sV {H:HM}:∀{l:List Mv} {m A:HM},kC H m l=.ok A→A.length≤m.length+2 * l.length
 | [],m,A,h=>by simp only [kC] at h; injection h with h; subst h; simp
 | v::r,m,A,h=>by
  simp only [kC] at h
  split at h
  ·cases h
  have hp:∀m1:HM,(if v.t ≠ 0 then bS m1 (v.t,v.it) (hold m1 H (v.t,v.it)+v.n) else m1).length≤m1.length+1:=by
   intro m1; split
   ·exact u7 ..
   ·omega
  split at h
  ·split at h
   ·cases h
   ·have h1:=sV h
    have h2:=hp (bS m (v.f,v.it) (hold m H (v.f,v.it) - v.n))
    have h3:=u7 m (v.f,v.it) (hold m H (v.f,v.it) - v.n)
    simp only [List.length_cons]
    omega
  ·have h1:=sV h
   have h2:=hp m
   simp only [List.length_cons]
   omega
theorem y7 {H:HM}:∀{l:List Mv} {m:HM} {e:Int},kC H m l=.err e→e ≠ 0
 | [],m,e,h=>by simp only [kC] at h; cases h
 | v::r,m,e,h=>by
  simp only [kC] at h
  split at h
  ·injection h with h; omega
  split at h
  ·split at h
   ·injection h with h; omega
   ·exact y7 h
  ·exact y7 h
theorem lq {S:SS} {i:Nat} (h:bL S i=[]) (j:Nat):bL (S.drop j) i=[]:=by
 cases hq:bL (S.drop j) i with
 | nil=>rfl
 | cons x r =>
  have hm:x∈bL (S.drop j) i:=by rw [hq]; exact List.mem_cons_self
  unfold bL at hm
  obtain ⟨p,h1,h2⟩:=List.mem_map.1 hm
  obtain ⟨h3,h4⟩:=List.mem_filter.1 h1
  have h5:x∈bL S i:=by
   unfold bL
   exact List.mem_map.2 ⟨p,List.mem_filter.2 ⟨List.mem_of_mem_drop h3,h4⟩,h2⟩
  rw [h] at h5; cases h5
set_option maxHeartbeats 4000000 in
theorem F5 (s:Vs) (S:SS) (h:nv s S) (st:St) (hl:st.mv.length≤1000) (hH:∀k,0≤hv s.H k∧hv s.H k≤1152921504606846976) (aN:s.H.length≤100000) (hw:1≤s.au∧s.au≤1099511627776) (rN:0≤s.last) (Um:0≤s.work∧s.work≤1152921504606846976) (Qw:∀j i,0≤iC (bL (S.drop j) i)∧iC (bL (S.drop j) i)≤1152921504606846976∧0≤iD (bL (S.drop j) i)∧iD (bL (S.drop j) i)≤1152921504606846976)
  (MA:∀A it n c,kC s.H [] st.mv=.ok A→dw s.aZ st=(it,n,c,true)→0≤it∧it<4∧1≤n∧n≤1099511627776∧1≤c∧c≤1099511627776)
  (iy:∀A,kC s.H [] st.mv=.ok A→∀done k now left,(done++(k,now)::left).Perm A→∃i:Nat,I0 (aF s done) k i now∧ck (aF s done) k now=ck s k now) :
  dA Tryz.prog 21 [.ptr 0 0,F2 st] 6 (vK false s) 9 (lk s S st (eP s S st)):=by
 refine wW aW mixed (aw _) (ay _) Tryz.func21 rfl rfl (by kernel_rfl) ?_
 repeat first | refine ⟨id,?_⟩ | refine ⟨fun _ h=>dB h,?_⟩ | refine ⟨fun _ h=>aA h,?_⟩ | refine ⟨fun h=>⟨h,fun h2=>bW h h2⟩,?_⟩ | refine ⟨fun h=>⟨h,fun h2=>br h h2⟩,?_⟩
 refine ⟨by kernel_rfl,fun hc=>?_,fun hc=>?_⟩
 ·have hr:eP s S st=.err 1:=by unfold eP; rw [if_pos hc]
  rw [hr]
  exact ⟨_,_,⟨rfl,rfl⟩,by kernel_rfl,⟨rf,tv⟩,⟨rf,rf,rf,rf,rf,rf,rfl,rfl,rfl,rfl,rfl,tv⟩,⟨rfl,rfl⟩,⟨rfl,rfl⟩,⟨rfl,rfl⟩,⟨rfl,rfl⟩,⟨rfl,rfl⟩,tv⟩
 have O3:s.last≤st.tick∧st.tick≤1099511627776:=by
  simp only [Bool.cond_true_left,Bool.or_eq_false_iff,decide_eq_false_iff_not] at hc; omega
 have RD:=y5 s S h st.tick (by omega)
 have V0:=kn s (by rw [h.bD,List.length_map]; have:=h.len; omega)
 have zD:=Lb s st.mv hl hH
 have Be:eP s S st=match kC s.H [] st.mv with
  | .err e=>.err e
  | .ok A=>if s.aU<Lc s S st+mM s.H A then .err 22 else .ok A:=by
  unfold eP; rw [if_neg (by rw [hc]; simp)]
 cases hA:kC s.H [] st.mv with
 | err e =>
  rw [hA] at zD Be
  simp only at Be
  have Ks:e ≠ 0:=y7 hA
  refine .inr ⟨[0,1,2,3,4,5],[.ptr 0 0,.dv (A8 st.mv)],vK false s,2,_,_,zD,by kernel_rfl,by kernel_rfl,⟨rfl,rf,tv⟩,⟨⟨rf,rf,rf,rf,rf,rf,rfl,rfl,rfl,rfl,rfl,tv⟩,⟨rfl,rfl⟩,⟨rfl,rfl⟩,⟨rfl,rfl⟩,⟨rfl,rfl⟩,⟨rfl,rfl⟩,tv⟩,?_⟩
  refine ⟨fun _=>?_,fun h9=>absurd h9 (by simpa using Ks)⟩
  rw [Be]
  exact ⟨_,_,⟨rfl,rfl⟩,by kernel_rfl,⟨rf,tv⟩,⟨rf,rf,rf,rf,rf,rf,rfl,rfl,rfl,rfl,rfl,tv⟩,⟨rfl,rfl⟩,⟨rfl,rfl⟩,⟨rfl,rfl⟩,⟨rfl,rfl⟩,⟨rfl,rfl⟩,tv⟩
 | ok A =>
  rw [hA] at zD Be
  simp only at Be
  refine .inr ⟨[0,1,2,3,4,5],[.ptr 0 0,.dv (A8 st.mv)],vK false s,2,_,_,zD,by kernel_rfl,by kernel_rfl,⟨rfl,rf,tv⟩,⟨⟨rf,rf,rf,rf,rf,rf,rfl,rfl,rfl,rfl,rfl,tv⟩,⟨rfl,rfl⟩,⟨rfl,rfl⟩,⟨rfl,rfl⟩,⟨rfl,rfl⟩,⟨rfl,rfl⟩,tv⟩,?_⟩
  refine ⟨fun h9=>by simp at h9,fun _=>?_⟩
  have S7:=Ba s st
  generalize ET:dw s.aZ st=sa at *
  obtain ⟨it,n,c,b⟩:=sa
  refine .inr ⟨[0,1,2,3,4,5],[.ptr 0 0,F2 st],vK false s,0,_,_,S7,by kernel_rfl,by kernel_rfl,⟨rfl,⟨rf,rf,rf,rf,rf,rf,rf,tv⟩,tv⟩,⟨⟨rf,rf,rf,rf,rf,rf,rfl,rfl,rfl,rfl,rfl,tv⟩,⟨rfl,rfl⟩,⟨rfl,rfl⟩,⟨rfl,rfl⟩,⟨rfl,rfl⟩,⟨rfl,rfl⟩,tv⟩,?_⟩
  refine .inr ⟨[0,1,2,3,4,5],[.ptr 0 0,.dv (I st.tick)],vK false s,0,_,_,RD,by kernel_rfl,by kernel_rfl,⟨rfl,rf,tv⟩,⟨⟨rf,rf,rf,rf,rf,rf,rfl,rfl,rfl,rfl,rfl,tv⟩,⟨rfl,rfl⟩,⟨rfl,rfl⟩,⟨rfl,rfl⟩,⟨rfl,rfl⟩,⟨rfl,rfl⟩,tv⟩,?_⟩
  refine .inr ⟨[0,1,2,3,4,5],[.ptr 0 0],vK false s,0,_,_,V0,by kernel_rfl,by kernel_rfl,⟨rfl,tv⟩,⟨⟨rf,rf,rf,rf,rf,rf,rfl,rfl,rfl,rfl,rfl,tv⟩,⟨rfl,rfl⟩,⟨rfl,rfl⟩,⟨rfl,rfl⟩,⟨rfl,rfl⟩,⟨rfl,rfl⟩,tv⟩,?_⟩
  have V1:fE S (st.tick - s.au)≤1000:=Nat.le_trans (by unfold fE; exact (List.takeWhile_sublist _).length_le) h.len
  have V2:s.bD.length≤1000:=by rw [h.bD,List.length_map]; exact h.len
  refine ⟨fun _=>⟨by omega,by omega⟩,?_⟩
  have Un:A.length≤100000:=by have:=sV hA; simp only [List.length_nil] at this; omega
  generalize nI:fE S (st.tick - s.au)=lv at *
  cases b
  ·refine ⟨fun hb=>(by cases hb),fun _=>?_⟩
   obtain ⟨z0,BY⟩:∃z0:Int,(s.H.length:Int)+(s.bD.length:Int) - (lv:Int)=z0:=⟨_,rfl⟩
   have S8:Lc s S st=z0:=by unfold Lc; rw [ET,nI]; simp only [cond_false,Int.add_zero]; exact BY
   have KY:-1000≤z0∧z0≤1000000:=by omega
   rw [S8] at Be
   refine ⟨S5,Uk s st A it n c false lv,fun z=>z.sz+mM s.H z.left=z0+mM s.H A∧z0 - ((A.length:Int) - (z.left.length:Int))≤z.sz∧z.sz≤z0+((A.length:Int) - (z.left.length:Int))∧z.left.length≤A.length,fun z=>z.left.length,⟨A,z0⟩,fun _=>rfl,?_,?_,?_⟩
   ·exact ⟨⟨rfl,rfl,rfl,rf,rf,rf,rf,rf,bq BY,rfl,tv⟩,⟨⟨rf,rf,rf,rf,rf,rf,rfl,rfl,rfl,rfl,rfl,tv⟩,⟨rfl,rfl⟩,⟨rfl,rfl⟩,⟨rfl,rfl⟩,⟨rfl,rfl⟩,⟨rfl,rfl⟩,⟨rf,rf,rf,rf,rf,rf,rf,tv⟩,tv,⟨rfl,rfl,rfl,rfl,.inl rfl,tv⟩,tv⟩,rfl,rfl⟩
   ·exact ⟨rfl,by simp only; omega,by simp only; omega,Nat.le_refl _⟩
   ·rintro ⟨left,sz⟩ ⟨h1,h2,h3,h4⟩
    simp only at h1 h2 h3 h4
    refine ⟨tv,fun h5=>⟨(fun h6=>by cases h6),fun _=>?_⟩,fun pos cc hU=>⟨fun _=>?_,fun h6=>by cases h6⟩⟩
    ·have hz:left=[]:=by simpa using h5
     subst hz
     have S9:sz=z0+mM s.H A:=by have:mM s.H []=0:=rfl; omega
     refine ⟨fun hq=>?_,fun hq=>?_⟩
     ·have hq:s.aU<sz:=of_decide_eq_true hq
      rw [if_pos (by omega)] at Be
      rw [Be]
      exact ⟨_,_,⟨rfl,rfl⟩,by kernel_rfl,⟨rf,tv⟩,⟨rf,rf,rf,rf,rf,rf,rfl,rfl,rfl,rfl,rfl,tv⟩,⟨rfl,rfl⟩,⟨rfl,rfl⟩,⟨rfl,rfl⟩,⟨rfl,rfl⟩,⟨rfl,rfl⟩,tv⟩
     have hq:¬ s.aU<sz:=of_decide_eq_false hq
     rw [if_neg (by omega)] at Be
     rw [Be]
     refine ⟨S6,Ul s st A it n c false lv,fun z=>(z.done++z.left).Perm A∧z.f=fm s z.done,fun z=>z.left.length,⟨A,[],false⟩,fun z=>by obtain ⟨z1,z2,z3⟩:=z; cases z3 <;> rfl,?_,?_,?_⟩
     ·exact ⟨⟨rfl,rfl,rf,rf,rf,rf,rf,rfl,tv⟩,⟨⟨rf,rf,rf,rf,rf,rf,rfl,rfl,rfl,rfl,rfl,tv⟩,⟨rfl,rfl⟩,⟨rfl,rfl⟩,⟨rfl,rfl⟩,⟨rfl,rfl⟩,⟨rfl,rfl⟩,⟨rf,rf,rf,rf,rf,rf,rf,tv⟩,tv,⟨rfl,rfl,rfl,rfl,.inl rfl,tv⟩,tv⟩,rfl,rfl⟩
     ·exact ⟨List.Perm.refl _,rfl⟩
     ·rintro ⟨left,done,f⟩ ⟨g1,g2⟩
      simp only at g1 g2
      refine ⟨tv,fun h5=>⟨(fun h6=>by cases h6),fun _=>?_⟩,fun pos cc hU=>⟨fun _=>?_,fun h6=>by cases h6⟩⟩
      ·have hz:left=[]:=by simpa using h5
       subst hz
       have k1:(aF s done).bD=s.bD:=ji s done
       have k2:(aF s done).sl=s.sl:=mN s done
       have k3:s.bD.length=S.length:=by rw [h.bD,List.length_map]
       have k4:lv≤S.length:=by rw [←nI]; unfold fE; exact (List.takeWhile_sublist _).length_le
       have k5:f=fm s A:=by rw [g2]; unfold fm; exact Bd (by simpa using g1) _
       have k6:done.Perm A:=by simpa using g1
       have k8:=lp s done
       have k9:done.length≤100000:=by rw [k6.length_eq]; exact Un
       generalize eT:aF s done=s1 at *
       have Qx:c7 s S 0=s1.sl:=by rw [k2]; exact xy h
       cases f
       ·refine .inr (.inl ⟨fun _=>⟨by simp,by simp,by simp only [k1,List.length_map,Option.getD_some]; omega⟩,?_⟩)
        refine ⟨Qv,RB s s1 S st it n c false lv false,fun z=>z.j≤lv∧z.h=decide (0<z.j),fun z=>lv - z.j,⟨0,false⟩,fun z=>by obtain ⟨z1,z2⟩:=z; cases z2 <;> rfl,?_,?_,?_⟩
        ·exact ⟨⟨rfl,rfl,rf,rf,rf,rf,rf,rfl,rf,rf,tv⟩,⟨⟨rf,rf,rf,rf,rf,rf,rfl,rfl,rfl,rfl,rfl,tv⟩,⟨rfl,rfl⟩,⟨rfl,rfl⟩,⟨rfl,rfl⟩,⟨rfl,by rw [Qx]⟩,⟨rfl,rfl⟩,⟨rf,rf,rf,rf,rf,rf,rf,tv⟩,tv⟩,rfl,rfl⟩
        ·exact ⟨Nat.zero_le _,rfl⟩
        ·rintro ⟨j,hh⟩ ⟨q1,q2⟩
         simp only at q1 q2
         refine ⟨fun aK=>?_,fun db=>?_⟩
         ·have aK:j<lv:=by have:=of_decide_eq_true aK; simp only [Int.ofNat_lt] at this; exact this
          obtain ⟨⟨i4,x0⟩,jO⟩:∃q,S[j]?=some q:=⟨_,List.getElem?_eq_getElem (by omega)⟩
          have Og:i4<4:=h.it _ (List.mem_of_getElem? jO)
          have si:(s1.bD.map I)[0+((j:Int)).toNat]?=some (I (i4:Int)):=by rw [k1,h.bD,List.map_map,List.getElem?_map,Nat.zero_add,Int.toNat_natCast,jO]; rfl
          obtain ⟨e1,e2⟩:=nw h jO
          have gX:((c7 s S j).map lI)[((i4:Int)).toNat]?=some (.ar 5 (bO x0::(bL (S.drop (j+1)) i4).map bO)):=by rw [List.getElem?_map,Int.toNat_natCast,e1]; rfl
          refine ⟨fun _=>⟨by simp only; omega,by simp only; omega⟩,I (i4:Int),fun _=>si,?_⟩
          have ea:(0:Int)≤(i4:Int)∧(i4:Int)<(((c7 s S j).map lI).length:Int):=⟨by omega,by rw [List.length_map,cd]; omega⟩
          have b4:DV.ar 1 ((((c7 s S j).map lI).set ((i4:Int)).toNat .any).set ((i4:Int)).toNat (.ar 5 ((bL (S.drop (j+1)) i4).map bO)))=.ar 1 ((c7 s S (j+1)).map lI):=by
           rw [List.set_set,Int.toNat_natCast,e2,List.map_set]; rfl
          have u9:DV.ar 5 (List.drop 1 (List.take ((((bO x0::(bL (S.drop (j+1)) i4).map bO).length:Nat):Int)).toNat (bO x0::(bL (S.drop (j+1)) i4).map bO)))=DV.ar 5 ((bL (S.drop (j+1)) i4).map bO):=by
           rw [Int.toNat_natCast,List.take_length]; rfl
          cases hh
          ·refine ⟨fun _=>ea,.ar 5 (bO x0::(bL (S.drop (j+1)) i4).map bO),fun _=>gX,?_⟩
           refine .inr (.inr ⟨.ar 5 (bO x0::(bL (S.drop (j+1)) i4).map bO),fun _=>gX,⟨by simp,by simp; omega,by simp⟩,?_⟩)
           refine ⟨.ar 5 (bO x0::(bL (S.drop (j+1)) i4).map bO),gX,?_⟩
           refine ⟨fun _=>by rw [List.length_set]; exact ea,[.ar 5 ((bL (S.drop (j+1)) i4).map bO)],⟨u9,tv⟩,.any,List.getElem?_set_self (by rw [List.length_map,cd]; omega),?_⟩
           refine ⟨by kernel_rfl,fun _=>⟨by simp only; omega,by simp only; omega⟩,⟨j+1,true⟩,⟨⟨rfl,rfl,rf,rf,rf,rf,rf,rfl,rf,bq (by simp),tv⟩,⟨⟨rf,rf,rf,rf,rf,rf,rfl,rfl,rfl,rfl,rfl,tv⟩,⟨rfl,rfl⟩,⟨rfl,rfl⟩,⟨rfl,rfl⟩,⟨rfl,b4⟩,⟨rfl,rfl⟩,⟨rf,rf,rf,rf,rf,rf,rf,tv⟩,tv⟩,rfl,rfl⟩,⟨by simp only; omega,by simp⟩,by simp only; omega⟩
          ·refine ⟨fun _=>ea,.ar 5 (bO x0::(bL (S.drop (j+1)) i4).map bO),fun _=>gX,?_⟩
           refine .inr (.inr ⟨.ar 5 (bO x0::(bL (S.drop (j+1)) i4).map bO),fun _=>gX,⟨by simp,by simp; omega,by simp⟩,?_⟩)
           refine ⟨.ar 5 (bO x0::(bL (S.drop (j+1)) i4).map bO),gX,?_⟩
           refine ⟨fun _=>by rw [List.length_set]; exact ea,[.ar 5 ((bL (S.drop (j+1)) i4).map bO)],⟨u9,tv⟩,.any,List.getElem?_set_self (by rw [List.length_map,cd]; omega),?_⟩
           refine ⟨by kernel_rfl,fun _=>⟨by simp only; omega,by simp only; omega⟩,⟨j+1,true⟩,⟨⟨rfl,rfl,rf,rf,rf,rf,rf,rfl,rf,bq (by simp),tv⟩,⟨⟨rf,rf,rf,rf,rf,rf,rfl,rfl,rfl,rfl,rfl,tv⟩,⟨rfl,rfl⟩,⟨rfl,rfl⟩,⟨rfl,rfl⟩,⟨rfl,b4⟩,⟨rfl,rfl⟩,⟨rf,rf,rf,rf,rf,rf,rf,tv⟩,tv⟩,rfl,rfl⟩,⟨by simp only; omega,by simp⟩,by simp only; omega⟩
         ·have db:j=lv:=by have:=of_decide_eq_false db; simp only [Int.ofNat_lt] at this; omega
          subst db
          have tG:DV.ar 1 (List.drop ((j:Int)).toNat (List.take (((s1.bD.map I).length:Nat):Int).toNat (s1.bD.map I)))=vK.gv (s1.bD.drop j):=by
           rw [Int.toNat_natCast,Int.toNat_natCast,List.take_length,←List.map_drop]; rfl
          refine .inl ⟨⟨by simp,by simp only [Option.getD_some,Option.getD_none,List.length_map,k1,k3]; omega,by simp⟩,fun _=>⟨by simp only; omega,by simp only; omega⟩,?_⟩
          refine ⟨(fun h9=>by cases h9),fun _=>?_⟩
          have k7:c7 s1 S j=c7 s S j:=by unfold c7; rw [k2]
          cases hh
          ·have q8:lk s S st (.ok A) [.dv (I 0)] (vS false false true { cS s1 S j with last:=st.tick }):=by
            refine ⟨done,k6,rfl,?_⟩
            rw [eT,←k5,ET,nI,←q2]
            have h0:cn s S st s1={ cS s1 S j with last:=st.tick }:=by unfold cn; rw [ET,nI]; rfl
            rw [h0]; simp
           exact ⟨_,_,q8,by kernel_rfl,⟨rf,tv⟩,⟨rf,rf,rf,rf,rf,rf,rfl,rfl,rfl,rfl,rfl,tv⟩,⟨rfl,rfl⟩,⟨rfl,rfl⟩,⟨rfl,rfl⟩,⟨rfl,by rw [←k7]; rfl⟩,⟨rfl,tG⟩,tv⟩
          ·have q8:lk s S st (.ok A) [.dv (I 0)] (vS false true true { cS s1 S j with last:=st.tick }):=by
            refine ⟨done,k6,rfl,?_⟩
            rw [eT,←k5,ET,nI,←q2]
            have h0:cn s S st s1={ cS s1 S j with last:=st.tick }:=by unfold cn; rw [ET,nI]; rfl
            rw [h0]; simp
           exact ⟨_,_,q8,by kernel_rfl,⟨rf,tv⟩,⟨rf,rf,rf,rf,rf,rf,rfl,rfl,rfl,rfl,rfl,tv⟩,⟨rfl,rfl⟩,⟨rfl,rfl⟩,⟨rfl,rfl⟩,⟨rfl,by rw [←k7]; rfl⟩,⟨rfl,tG⟩,tv⟩
       ·refine .inr (.inl ⟨fun _=>⟨by simp,by simp,by simp only [k1,List.length_map,Option.getD_some]; omega⟩,?_⟩)
        refine ⟨Qv,RB s s1 S st it n c false lv true,fun z=>z.j≤lv∧z.h=decide (0<z.j),fun z=>lv - z.j,⟨0,false⟩,fun z=>by obtain ⟨z1,z2⟩:=z; cases z2 <;> rfl,?_,?_,?_⟩
        ·exact ⟨⟨rfl,rfl,rf,rf,rf,rf,rf,rfl,rf,rf,tv⟩,⟨⟨rf,rf,rf,rf,rf,rf,rfl,rfl,rfl,rfl,rfl,tv⟩,⟨rfl,rfl⟩,⟨rfl,rfl⟩,⟨rfl,rfl⟩,⟨rfl,by rw [Qx]⟩,⟨rfl,rfl⟩,⟨rf,rf,rf,rf,rf,rf,rf,tv⟩,tv⟩,rfl,rfl⟩
        ·exact ⟨Nat.zero_le _,rfl⟩
        ·rintro ⟨j,hh⟩ ⟨q1,q2⟩
         simp only at q1 q2
         refine ⟨fun aK=>?_,fun db=>?_⟩
         ·have aK:j<lv:=by have:=of_decide_eq_true aK; simp only [Int.ofNat_lt] at this; exact this
          obtain ⟨⟨i4,x0⟩,jO⟩:∃q,S[j]?=some q:=⟨_,List.getElem?_eq_getElem (by omega)⟩
          have Og:i4<4:=h.it _ (List.mem_of_getElem? jO)
          have si:(s1.bD.map I)[0+((j:Int)).toNat]?=some (I (i4:Int)):=by rw [k1,h.bD,List.map_map,List.getElem?_map,Nat.zero_add,Int.toNat_natCast,jO]; rfl
          obtain ⟨e1,e2⟩:=nw h jO
          have gX:((c7 s S j).map lI)[((i4:Int)).toNat]?=some (.ar 5 (bO x0::(bL (S.drop (j+1)) i4).map bO)):=by rw [List.getElem?_map,Int.toNat_natCast,e1]; rfl
          refine ⟨fun _=>⟨by simp only; omega,by simp only; omega⟩,I (i4:Int),fun _=>si,?_⟩
          have ea:(0:Int)≤(i4:Int)∧(i4:Int)<(((c7 s S j).map lI).length:Int):=⟨by omega,by rw [List.length_map,cd]; omega⟩
          have b4:DV.ar 1 ((((c7 s S j).map lI).set ((i4:Int)).toNat .any).set ((i4:Int)).toNat (.ar 5 ((bL (S.drop (j+1)) i4).map bO)))=.ar 1 ((c7 s S (j+1)).map lI):=by
           rw [List.set_set,Int.toNat_natCast,e2,List.map_set]; rfl
          have u9:DV.ar 5 (List.drop 1 (List.take ((((bO x0::(bL (S.drop (j+1)) i4).map bO).length:Nat):Int)).toNat (bO x0::(bL (S.drop (j+1)) i4).map bO)))=DV.ar 5 ((bL (S.drop (j+1)) i4).map bO):=by
           rw [Int.toNat_natCast,List.take_length]; rfl
          cases hh
          ·refine ⟨fun _=>ea,.ar 5 (bO x0::(bL (S.drop (j+1)) i4).map bO),fun _=>gX,?_⟩
           refine .inr (.inr ⟨.ar 5 (bO x0::(bL (S.drop (j+1)) i4).map bO),fun _=>gX,⟨by simp,by simp; omega,by simp⟩,?_⟩)
           refine ⟨.ar 5 (bO x0::(bL (S.drop (j+1)) i4).map bO),gX,?_⟩
           refine ⟨fun _=>by rw [List.length_set]; exact ea,[.ar 5 ((bL (S.drop (j+1)) i4).map bO)],⟨u9,tv⟩,.any,List.getElem?_set_self (by rw [List.length_map,cd]; omega),?_⟩
           refine ⟨by kernel_rfl,fun _=>⟨by simp only; omega,by simp only; omega⟩,⟨j+1,true⟩,⟨⟨rfl,rfl,rf,rf,rf,rf,rf,rfl,rf,bq (by simp),tv⟩,⟨⟨rf,rf,rf,rf,rf,rf,rfl,rfl,rfl,rfl,rfl,tv⟩,⟨rfl,rfl⟩,⟨rfl,rfl⟩,⟨rfl,rfl⟩,⟨rfl,b4⟩,⟨rfl,rfl⟩,⟨rf,rf,rf,rf,rf,rf,rf,tv⟩,tv⟩,rfl,rfl⟩,⟨by simp only; omega,by simp⟩,by simp only; omega⟩
          ·refine ⟨fun _=>ea,.ar 5 (bO x0::(bL (S.drop (j+1)) i4).map bO),fun _=>gX,?_⟩
           refine .inr (.inr ⟨.ar 5 (bO x0::(bL (S.drop (j+1)) i4).map bO),fun _=>gX,⟨by simp,by simp; omega,by simp⟩,?_⟩)
           refine ⟨.ar 5 (bO x0::(bL (S.drop (j+1)) i4).map bO),gX,?_⟩
           refine ⟨fun _=>by rw [List.length_set]; exact ea,[.ar 5 ((bL (S.drop (j+1)) i4).map bO)],⟨u9,tv⟩,.any,List.getElem?_set_self (by rw [List.length_map,cd]; omega),?_⟩
           refine ⟨by kernel_rfl,fun _=>⟨by simp only; omega,by simp only; omega⟩,⟨j+1,true⟩,⟨⟨rfl,rfl,rf,rf,rf,rf,rf,rfl,rf,bq (by simp),tv⟩,⟨⟨rf,rf,rf,rf,rf,rf,rfl,rfl,rfl,rfl,rfl,tv⟩,⟨rfl,rfl⟩,⟨rfl,rfl⟩,⟨rfl,rfl⟩,⟨rfl,b4⟩,⟨rfl,rfl⟩,⟨rf,rf,rf,rf,rf,rf,rf,tv⟩,tv⟩,rfl,rfl⟩,⟨by simp only; omega,by simp⟩,by simp only; omega⟩
         ·have db:j=lv:=by have:=of_decide_eq_false db; simp only [Int.ofNat_lt] at this; omega
          subst db
          have tG:DV.ar 1 (List.drop ((j:Int)).toNat (List.take (((s1.bD.map I).length:Nat):Int).toNat (s1.bD.map I)))=vK.gv (s1.bD.drop j):=by
           rw [Int.toNat_natCast,Int.toNat_natCast,List.take_length,←List.map_drop]; rfl
          refine .inl ⟨⟨by simp,by simp only [Option.getD_some,Option.getD_none,List.length_map,k1,k3]; omega,by simp⟩,fun _=>⟨by simp only; omega,by simp only; omega⟩,?_⟩
          refine ⟨(fun h9=>by cases h9),fun _=>?_⟩
          have k7:c7 s1 S j=c7 s S j:=by unfold c7; rw [k2]
          cases hh
          ·have q8:lk s S st (.ok A) [.dv (I 0)] (vS true false true { cS s1 S j with last:=st.tick }):=by
            refine ⟨done,k6,rfl,?_⟩
            rw [eT,←k5,ET,nI,←q2]
            have h0:cn s S st s1={ cS s1 S j with last:=st.tick }:=by unfold cn; rw [ET,nI]; rfl
            rw [h0]; simp
           exact ⟨_,_,q8,by kernel_rfl,⟨rf,tv⟩,⟨rf,rf,rf,rf,rf,rf,rfl,rfl,rfl,rfl,rfl,tv⟩,⟨rfl,rfl⟩,⟨rfl,rfl⟩,⟨rfl,rfl⟩,⟨rfl,by rw [←k7]; rfl⟩,⟨rfl,tG⟩,tv⟩
          ·have q8:lk s S st (.ok A) [.dv (I 0)] (vS true true true { cS s1 S j with last:=st.tick }):=by
            refine ⟨done,k6,rfl,?_⟩
            rw [eT,←k5,ET,nI,←q2]
            have h0:cn s S st s1={ cS s1 S j with last:=st.tick }:=by unfold cn; rw [ET,nI]; rfl
            rw [h0]; simp
           exact ⟨_,_,q8,by kernel_rfl,⟨rf,tv⟩,⟨rf,rf,rf,rf,rf,rf,rfl,rfl,rfl,rfl,rfl,tv⟩,⟨rfl,rfl⟩,⟨rfl,rfl⟩,⟨rfl,rfl⟩,⟨rfl,by rw [←k7]; rfl⟩,⟨rfl,tG⟩,tv⟩
      ·simp only at hU
       rw [List.getElem?_map] at hU
       obtain ⟨⟨k,x⟩,hk,rfl⟩:∃p,left[pos]?=some p∧cc=oY p:=by
        cases hq:left[pos]? with
        | none=>rw [hq] at hU; cases hU
        | some p=>rw [hq] at hU; exact ⟨p,rfl,by simpa using hU.symm⟩
       refine ⟨ln x,?_⟩
       have zE:(done++(k,x)::left.eraseIdx pos).Perm A:=((oN hk).append_left done).symm.trans g1
       obtain ⟨ii,bK,Ta⟩:=iy A hA done k x _ zE
       have cD:=A5 (aF s done) k ii x bK
       have AW:cu (aF s done) k ii x=aF s (done++[(k,x)]):=by
        unfold aF; rw [List.foldl_append]; show cu _ k ii x=cu _ k k.2.toNat x
        rw [show k.2.toNat=ii by have:=bK.it; omega]
       rw [AW,Ta] at cD
       have n6:fm s (done++[(k,x)])=(f || ck s k x):=by unfold fm; rw [List.any_append,g2]; simp [fm]
       cases f
       ·cases Jb:ck s k x
        ·rw [Jb] at cD n6
         refine .inr ⟨[0,1,2,3,4,5],[.ptr 0 0,.agg [.dv (I k.1),.dv (I k.2)],.dv (I x)],vK false (aF s done),0,_,_,cD,by kernel_rfl,by kernel_rfl,⟨rfl,⟨rf,rf,tv⟩,rf,tv⟩,⟨⟨rf,rf,rf,rf,rf,rf,rfl,rfl,rfl,rfl,rfl,tv⟩,⟨rfl,rfl⟩,⟨rfl,rfl⟩,⟨rfl,rfl⟩,⟨rfl,rfl⟩,⟨rfl,rfl⟩,tv⟩,?_⟩
         exact ⟨⟨left.eraseIdx pos,done++[(k,x)],false⟩,⟨⟨rfl,rfl,rf,rf,rf,rf,rf,rfl,tv⟩,⟨⟨rf,rf,rf,rf,rf,rf,rfl,rfl,rfl,rfl,rfl,tv⟩,⟨rfl,rfl⟩,⟨rfl,rfl⟩,⟨rfl,rfl⟩,⟨rfl,rfl⟩,⟨rfl,rfl⟩,⟨rf,rf,rf,rf,rf,rf,rf,tv⟩,tv,⟨rfl,rfl,rfl,cG _ _,.inl rfl,tv⟩,tv⟩,rfl,rfl⟩,⟨by simp only [List.append_assoc]; exact zE,n6.symm⟩,by simp only; have:=er hk; omega⟩
        ·rw [Jb] at cD n6
         refine .inr ⟨[0,1,2,3,4,5],[.ptr 0 0,.agg [.dv (I k.1),.dv (I k.2)],.dv (I x)],vK false (aF s done),0,_,_,cD,by kernel_rfl,by kernel_rfl,⟨rfl,⟨rf,rf,tv⟩,rf,tv⟩,⟨⟨rf,rf,rf,rf,rf,rf,rfl,rfl,rfl,rfl,rfl,tv⟩,⟨rfl,rfl⟩,⟨rfl,rfl⟩,⟨rfl,rfl⟩,⟨rfl,rfl⟩,⟨rfl,rfl⟩,tv⟩,?_⟩
         exact ⟨⟨left.eraseIdx pos,done++[(k,x)],true⟩,⟨⟨rfl,rfl,rf,rf,rf,rf,rf,rfl,tv⟩,⟨⟨rf,rf,rf,rf,rf,rf,rfl,rfl,rfl,rfl,rfl,tv⟩,⟨rfl,rfl⟩,⟨rfl,rfl⟩,⟨rfl,rfl⟩,⟨rfl,rfl⟩,⟨rfl,rfl⟩,⟨rf,rf,rf,rf,rf,rf,rf,tv⟩,tv,⟨rfl,rfl,rfl,cG _ _,.inl rfl,tv⟩,tv⟩,rfl,rfl⟩,⟨by simp only [List.append_assoc]; exact zE,n6.symm⟩,by simp only; have:=er hk; omega⟩
       ·cases Jb:ck s k x
        ·rw [Jb] at cD n6
         refine .inr ⟨[0,1,2,3,4,5],[.ptr 0 0,.agg [.dv (I k.1),.dv (I k.2)],.dv (I x)],vK false (aF s done),0,_,_,cD,by kernel_rfl,by kernel_rfl,⟨rfl,⟨rf,rf,tv⟩,rf,tv⟩,⟨⟨rf,rf,rf,rf,rf,rf,rfl,rfl,rfl,rfl,rfl,tv⟩,⟨rfl,rfl⟩,⟨rfl,rfl⟩,⟨rfl,rfl⟩,⟨rfl,rfl⟩,⟨rfl,rfl⟩,tv⟩,?_⟩
         exact ⟨⟨left.eraseIdx pos,done++[(k,x)],true⟩,⟨⟨rfl,rfl,rf,rf,rf,rf,rf,rfl,tv⟩,⟨⟨rf,rf,rf,rf,rf,rf,rfl,rfl,rfl,rfl,rfl,tv⟩,⟨rfl,rfl⟩,⟨rfl,rfl⟩,⟨rfl,rfl⟩,⟨rfl,rfl⟩,⟨rfl,rfl⟩,⟨rf,rf,rf,rf,rf,rf,rf,tv⟩,tv,⟨rfl,rfl,rfl,cG _ _,.inl rfl,tv⟩,tv⟩,rfl,rfl⟩,⟨by simp only [List.append_assoc]; exact zE,n6.symm⟩,by simp only; have:=er hk; omega⟩
        ·rw [Jb] at cD n6
         refine .inr ⟨[0,1,2,3,4,5],[.ptr 0 0,.agg [.dv (I k.1),.dv (I k.2)],.dv (I x)],vK false (aF s done),0,_,_,cD,by kernel_rfl,by kernel_rfl,⟨rfl,⟨rf,rf,tv⟩,rf,tv⟩,⟨⟨rf,rf,rf,rf,rf,rf,rfl,rfl,rfl,rfl,rfl,tv⟩,⟨rfl,rfl⟩,⟨rfl,rfl⟩,⟨rfl,rfl⟩,⟨rfl,rfl⟩,⟨rfl,rfl⟩,tv⟩,?_⟩
         exact ⟨⟨left.eraseIdx pos,done++[(k,x)],true⟩,⟨⟨rfl,rfl,rf,rf,rf,rf,rf,rfl,tv⟩,⟨⟨rf,rf,rf,rf,rf,rf,rfl,rfl,rfl,rfl,rfl,tv⟩,⟨rfl,rfl⟩,⟨rfl,rfl⟩,⟨rfl,rfl⟩,⟨rfl,rfl⟩,⟨rfl,rfl⟩,⟨rf,rf,rf,rf,rf,rf,rf,tv⟩,tv,⟨rfl,rfl,rfl,cG _ _,.inl rfl,tv⟩,tv⟩,rfl,rfl⟩,⟨by simp only [List.append_assoc]; exact zE,n6.symm⟩,by simp only; have:=er hk; omega⟩
    ·simp only at hU
     rw [List.getElem?_map] at hU
     obtain ⟨⟨k,x⟩,hk,rfl⟩:∃p,left[pos]?=some p∧cc=oY p:=by
      cases hq:left[pos]? with
      | none=>rw [hq] at hU; cases hU
      | some p=>rw [hq] at hU; exact ⟨p,rfl,by simpa using hU.symm⟩
     refine ⟨ln x,?_⟩
     refine ⟨gH,vR k,rfl,rfl,I (hv s.H k),(bs s.H k).isSome,fun _=>Bb s.H k,ER s.H k,rfl,?_⟩
     refine ⟨by kernel_rfl,?_⟩
     repeat first | refine ⟨id,?_⟩ | refine ⟨fun _ h=>dB h,?_⟩ | refine ⟨fun _ h=>aA h,?_⟩ | refine ⟨fun h=>⟨h,fun h2=>bW h h2⟩,?_⟩ | refine ⟨fun h=>⟨h,fun h2=>br h h2⟩,?_⟩
     have Ce:=oM s.H hk
     have hle:=er hk
     refine ⟨fun hq=>?_,fun hq=>?_⟩
     ·have hd:I8 s.H (k,x)=1:=by
       show (bif (bif hv s.H k == 0 then x != 0 else false) then (1:Int) else _)=1
       rw [show (bif hv s.H k == 0 then x != 0 else false)=true from hq]; rfl
      have h0:hv s.H k=0:=by
       cases hz:(hv s.H k == 0) with
       | true=>simpa using hz
       | false=>rw [hz] at hq; cases hq
      refine ⟨fun _=>⟨by simp only; omega,by simp only; omega⟩,?_⟩
      repeat first | refine ⟨id,?_⟩ | refine ⟨fun _ h=>dB h,?_⟩ | refine ⟨fun _ h=>aA h,?_⟩ | refine ⟨fun h=>⟨h,fun h2=>bW h h2⟩,?_⟩ | refine ⟨fun h=>⟨h,fun h2=>br h h2⟩,?_⟩
      refine ⟨fun hr=>absurd hr (by rw [h0]; simp),fun _=>?_⟩
      exact ⟨⟨left.eraseIdx pos,sz+1⟩,⟨⟨rfl,rfl,rfl,rf,rf,rf,rf,rf,rf,rfl,tv⟩,⟨⟨rf,rf,rf,rf,rf,rf,rfl,rfl,rfl,rfl,rfl,tv⟩,⟨rfl,rfl⟩,⟨rfl,rfl⟩,⟨rfl,rfl⟩,⟨rfl,rfl⟩,⟨rfl,rfl⟩,⟨rf,rf,rf,rf,rf,rf,rf,tv⟩,tv,⟨rfl,rfl,rfl,cG _ _,.inl rfl,tv⟩,tv⟩,rfl,rfl⟩,⟨by simp only; omega,by simp only; omega,by simp only; omega,by simp only; omega⟩,by simp only; omega⟩
     ·repeat first | refine ⟨id,?_⟩ | refine ⟨fun _ h=>dB h,?_⟩ | refine ⟨fun _ h=>aA h,?_⟩ | refine ⟨fun h=>⟨h,fun h2=>bW h h2⟩,?_⟩ | refine ⟨fun h=>⟨h,fun h2=>br h h2⟩,?_⟩
      refine ⟨fun hr=>?_,fun hr=>?_⟩
      ·have hd:I8 s.H (k,x)=-1:=by
        show (bif (bif hv s.H k == 0 then x != 0 else false) then (1:Int) else bif (bif hv s.H k != 0 then x == 0 else false) then -1 else 0)=-1
        rw [show (bif hv s.H k == 0 then x != 0 else false)=false from hq,show (bif hv s.H k != 0 then x == 0 else false)=true from hr]; rfl
       refine ⟨fun _=>⟨by simp only; omega,by simp only; omega⟩,?_⟩
       exact ⟨⟨left.eraseIdx pos,sz - 1⟩,⟨⟨rfl,rfl,rfl,rf,rf,rf,rf,rf,rf,rfl,tv⟩,⟨⟨rf,rf,rf,rf,rf,rf,rfl,rfl,rfl,rfl,rfl,tv⟩,⟨rfl,rfl⟩,⟨rfl,rfl⟩,⟨rfl,rfl⟩,⟨rfl,rfl⟩,⟨rfl,rfl⟩,⟨rf,rf,rf,rf,rf,rf,rf,tv⟩,tv,⟨rfl,rfl,rfl,cG _ _,.inl rfl,tv⟩,tv⟩,rfl,rfl⟩,⟨by simp only; omega,by simp only; omega,by simp only; omega,by simp only; omega⟩,by simp only; omega⟩
      ·have hd:I8 s.H (k,x)=0:=by
        show (bif (bif hv s.H k == 0 then x != 0 else false) then (1:Int) else bif (bif hv s.H k != 0 then x == 0 else false) then -1 else 0)=0
        rw [show (bif hv s.H k == 0 then x != 0 else false)=false from hq,show (bif hv s.H k != 0 then x == 0 else false)=false from hr]; rfl
       exact ⟨⟨left.eraseIdx pos,sz⟩,⟨⟨rfl,rfl,rfl,rf,rf,rf,rf,rf,rf,rfl,tv⟩,⟨⟨rf,rf,rf,rf,rf,rf,rfl,rfl,rfl,rfl,rfl,tv⟩,⟨rfl,rfl⟩,⟨rfl,rfl⟩,⟨rfl,rfl⟩,⟨rfl,rfl⟩,⟨rfl,rfl⟩,⟨rf,rf,rf,rf,rf,rf,rf,tv⟩,tv,⟨rfl,rfl,rfl,cG _ _,.inl rfl,tv⟩,tv⟩,rfl,rfl⟩,⟨by simp only; omega,by simp only; omega,by simp only; omega,by simp only; omega⟩,by simp only; omega⟩
  ·refine ⟨fun _=>⟨fun _=>⟨by omega,by omega⟩,?_⟩,fun hb=>by cases hb⟩
   obtain ⟨z0,BY⟩:∃z0:Int,(s.H.length:Int)+(s.bD.length:Int) - (lv:Int)+1=z0:=⟨_,rfl⟩
   have S8:Lc s S st=z0:=by unfold Lc; rw [ET,nI]; exact BY
   have KY:-1000≤z0∧z0≤1000000:=by omega
   rw [S8] at Be
   refine ⟨S5,Uk s st A it n c true lv,fun z=>z.sz+mM s.H z.left=z0+mM s.H A∧z0 - ((A.length:Int) - (z.left.length:Int))≤z.sz∧z.sz≤z0+((A.length:Int) - (z.left.length:Int))∧z.left.length≤A.length,fun z=>z.left.length,⟨A,z0⟩,fun _=>rfl,?_,?_,?_⟩
   ·exact ⟨⟨rfl,rfl,rfl,rf,rf,rf,rf,rf,bq BY,rfl,tv⟩,⟨⟨rf,rf,rf,rf,rf,rf,rfl,rfl,rfl,rfl,rfl,tv⟩,⟨rfl,rfl⟩,⟨rfl,rfl⟩,⟨rfl,rfl⟩,⟨rfl,rfl⟩,⟨rfl,rfl⟩,⟨rf,rf,rf,rf,rf,rf,rf,tv⟩,tv,⟨rfl,rfl,rfl,rfl,.inl rfl,tv⟩,tv⟩,rfl,rfl⟩
   ·exact ⟨rfl,by simp only; omega,by simp only; omega,Nat.le_refl _⟩
   ·rintro ⟨left,sz⟩ ⟨h1,h2,h3,h4⟩
    simp only at h1 h2 h3 h4
    refine ⟨tv,fun h5=>⟨(fun h6=>by cases h6),fun _=>?_⟩,fun pos cc hU=>⟨fun _=>?_,fun h6=>by cases h6⟩⟩
    ·have hz:left=[]:=by simpa using h5
     subst hz
     have S9:sz=z0+mM s.H A:=by have:mM s.H []=0:=rfl; omega
     refine ⟨fun hq=>?_,fun hq=>?_⟩
     ·have hq:s.aU<sz:=of_decide_eq_true hq
      rw [if_pos (by omega)] at Be
      rw [Be]
      exact ⟨_,_,⟨rfl,rfl⟩,by kernel_rfl,⟨rf,tv⟩,⟨rf,rf,rf,rf,rf,rf,rfl,rfl,rfl,rfl,rfl,tv⟩,⟨rfl,rfl⟩,⟨rfl,rfl⟩,⟨rfl,rfl⟩,⟨rfl,rfl⟩,⟨rfl,rfl⟩,tv⟩
     have hq:¬ s.aU<sz:=of_decide_eq_false hq
     rw [if_neg (by omega)] at Be
     rw [Be]
     refine ⟨S6,Ul s st A it n c true lv,fun z=>(z.done++z.left).Perm A∧z.f=fm s z.done,fun z=>z.left.length,⟨A,[],false⟩,fun z=>by obtain ⟨z1,z2,z3⟩:=z; cases z3 <;> rfl,?_,?_,?_⟩
     ·exact ⟨⟨rfl,rfl,rf,rf,rf,rf,rf,rfl,tv⟩,⟨⟨rf,rf,rf,rf,rf,rf,rfl,rfl,rfl,rfl,rfl,tv⟩,⟨rfl,rfl⟩,⟨rfl,rfl⟩,⟨rfl,rfl⟩,⟨rfl,rfl⟩,⟨rfl,rfl⟩,⟨rf,rf,rf,rf,rf,rf,rf,tv⟩,tv,⟨rfl,rfl,rfl,rfl,.inl rfl,tv⟩,tv⟩,rfl,rfl⟩
     ·exact ⟨List.Perm.refl _,rfl⟩
     ·rintro ⟨left,done,f⟩ ⟨g1,g2⟩
      simp only at g1 g2
      refine ⟨tv,fun h5=>⟨(fun h6=>by cases h6),fun _=>?_⟩,fun pos cc hU=>⟨fun _=>?_,fun h6=>by cases h6⟩⟩
      ·have hz:left=[]:=by simpa using h5
       subst hz
       have k1:(aF s done).bD=s.bD:=ji s done
       have k2:(aF s done).sl=s.sl:=mN s done
       have k3:s.bD.length=S.length:=by rw [h.bD,List.length_map]
       have k4:lv≤S.length:=by rw [←nI]; unfold fE; exact (List.takeWhile_sublist _).length_le
       have k5:f=fm s A:=by rw [g2]; unfold fm; exact Bd (by simpa using g1) _
       have k6:done.Perm A:=by simpa using g1
       have k8:=lp s done
       have k9:done.length≤100000:=by rw [k6.length_eq]; exact Un
       generalize eT:aF s done=s1 at *
       have Qx:c7 s S 0=s1.sl:=by rw [k2]; exact xy h
       cases f
       ·refine .inr (.inl ⟨fun _=>⟨by simp,by simp,by simp only [k1,List.length_map,Option.getD_some]; omega⟩,?_⟩)
        refine ⟨Qv,RB s s1 S st it n c true lv false,fun z=>z.j≤lv∧z.h=decide (0<z.j),fun z=>lv - z.j,⟨0,false⟩,fun z=>by obtain ⟨z1,z2⟩:=z; cases z2 <;> rfl,?_,?_,?_⟩
        ·exact ⟨⟨rfl,rfl,rf,rf,rf,rf,rf,rfl,rf,rf,tv⟩,⟨⟨rf,rf,rf,rf,rf,rf,rfl,rfl,rfl,rfl,rfl,tv⟩,⟨rfl,rfl⟩,⟨rfl,rfl⟩,⟨rfl,rfl⟩,⟨rfl,by rw [Qx]⟩,⟨rfl,rfl⟩,⟨rf,rf,rf,rf,rf,rf,rf,tv⟩,tv⟩,rfl,rfl⟩
        ·exact ⟨Nat.zero_le _,rfl⟩
        ·rintro ⟨j,hh⟩ ⟨q1,q2⟩
         simp only at q1 q2
         refine ⟨fun aK=>?_,fun db=>?_⟩
         ·have aK:j<lv:=by have:=of_decide_eq_true aK; simp only [Int.ofNat_lt] at this; exact this
          obtain ⟨⟨i4,x0⟩,jO⟩:∃q,S[j]?=some q:=⟨_,List.getElem?_eq_getElem (by omega)⟩
          have Og:i4<4:=h.it _ (List.mem_of_getElem? jO)
          have si:(s1.bD.map I)[0+((j:Int)).toNat]?=some (I (i4:Int)):=by rw [k1,h.bD,List.map_map,List.getElem?_map,Nat.zero_add,Int.toNat_natCast,jO]; rfl
          obtain ⟨e1,e2⟩:=nw h jO
          have gX:((c7 s S j).map lI)[((i4:Int)).toNat]?=some (.ar 5 (bO x0::(bL (S.drop (j+1)) i4).map bO)):=by rw [List.getElem?_map,Int.toNat_natCast,e1]; rfl
          refine ⟨fun _=>⟨by simp only; omega,by simp only; omega⟩,I (i4:Int),fun _=>si,?_⟩
          have ea:(0:Int)≤(i4:Int)∧(i4:Int)<(((c7 s S j).map lI).length:Int):=⟨by omega,by rw [List.length_map,cd]; omega⟩
          have b4:DV.ar 1 ((((c7 s S j).map lI).set ((i4:Int)).toNat .any).set ((i4:Int)).toNat (.ar 5 ((bL (S.drop (j+1)) i4).map bO)))=.ar 1 ((c7 s S (j+1)).map lI):=by
           rw [List.set_set,Int.toNat_natCast,e2,List.map_set]; rfl
          have u9:DV.ar 5 (List.drop 1 (List.take ((((bO x0::(bL (S.drop (j+1)) i4).map bO).length:Nat):Int)).toNat (bO x0::(bL (S.drop (j+1)) i4).map bO)))=DV.ar 5 ((bL (S.drop (j+1)) i4).map bO):=by
           rw [Int.toNat_natCast,List.take_length]; rfl
          cases hh
          ·refine ⟨fun _=>ea,.ar 5 (bO x0::(bL (S.drop (j+1)) i4).map bO),fun _=>gX,?_⟩
           refine .inr (.inr ⟨.ar 5 (bO x0::(bL (S.drop (j+1)) i4).map bO),fun _=>gX,⟨by simp,by simp; omega,by simp⟩,?_⟩)
           refine ⟨.ar 5 (bO x0::(bL (S.drop (j+1)) i4).map bO),gX,?_⟩
           refine ⟨fun _=>by rw [List.length_set]; exact ea,[.ar 5 ((bL (S.drop (j+1)) i4).map bO)],⟨u9,tv⟩,.any,List.getElem?_set_self (by rw [List.length_map,cd]; omega),?_⟩
           refine ⟨by kernel_rfl,fun _=>⟨by simp only; omega,by simp only; omega⟩,⟨j+1,true⟩,⟨⟨rfl,rfl,rf,rf,rf,rf,rf,rfl,rf,bq (by simp),tv⟩,⟨⟨rf,rf,rf,rf,rf,rf,rfl,rfl,rfl,rfl,rfl,tv⟩,⟨rfl,rfl⟩,⟨rfl,rfl⟩,⟨rfl,rfl⟩,⟨rfl,b4⟩,⟨rfl,rfl⟩,⟨rf,rf,rf,rf,rf,rf,rf,tv⟩,tv⟩,rfl,rfl⟩,⟨by simp only; omega,by simp⟩,by simp only; omega⟩
          ·refine ⟨fun _=>ea,.ar 5 (bO x0::(bL (S.drop (j+1)) i4).map bO),fun _=>gX,?_⟩
           refine .inr (.inr ⟨.ar 5 (bO x0::(bL (S.drop (j+1)) i4).map bO),fun _=>gX,⟨by simp,by simp; omega,by simp⟩,?_⟩)
           refine ⟨.ar 5 (bO x0::(bL (S.drop (j+1)) i4).map bO),gX,?_⟩
           refine ⟨fun _=>by rw [List.length_set]; exact ea,[.ar 5 ((bL (S.drop (j+1)) i4).map bO)],⟨u9,tv⟩,.any,List.getElem?_set_self (by rw [List.length_map,cd]; omega),?_⟩
           refine ⟨by kernel_rfl,fun _=>⟨by simp only; omega,by simp only; omega⟩,⟨j+1,true⟩,⟨⟨rfl,rfl,rf,rf,rf,rf,rf,rfl,rf,bq (by simp),tv⟩,⟨⟨rf,rf,rf,rf,rf,rf,rfl,rfl,rfl,rfl,rfl,tv⟩,⟨rfl,rfl⟩,⟨rfl,rfl⟩,⟨rfl,rfl⟩,⟨rfl,b4⟩,⟨rfl,rfl⟩,⟨rf,rf,rf,rf,rf,rf,rf,tv⟩,tv⟩,rfl,rfl⟩,⟨by simp only; omega,by simp⟩,by simp only; omega⟩
         ·have db:j=lv:=by have:=of_decide_eq_false db; simp only [Int.ofNat_lt] at this; omega
          subst db
          have tG:DV.ar 1 (List.drop ((j:Int)).toNat (List.take (((s1.bD.map I).length:Nat):Int).toNat (s1.bD.map I)))=vK.gv (s1.bD.drop j):=by
           rw [Int.toNat_natCast,Int.toNat_natCast,List.take_length,←List.map_drop]; rfl
          refine .inl ⟨⟨by simp,by simp only [Option.getD_some,Option.getD_none,List.length_map,k1,k3]; omega,by simp⟩,fun _=>⟨by simp only; omega,by simp only; omega⟩,?_⟩
          refine ⟨fun _=>?_,fun h9=>by cases h9⟩
          have k7:c7 s1 S j=c7 s S j:=by unfold c7; rw [k2]
          obtain ⟨t1,t2,t3,t4,t5,t6⟩:=MA A it n c hA rfl
          obtain ⟨i5,rfl⟩:∃i5:Nat,it=(i5:Int):=⟨it.toNat,by omega⟩
          have t7:=gY s S j i5 (by omega)
          have t8:=Qw j i5
          have t9:(bL (S.drop j) i5).length≤1000:=by
           unfold bL; rw [List.length_map]
           refine Nat.le_trans (List.length_filter_le ..) ?_
           rw [List.length_drop]; have:=h.len; omega
          have Bf:bg Tryz.prog 54 [.ptr 0 0,.dv (I i5),.agg [.dv (I st.tick),.dv (I n),.dv (I c),.dv (I 0),.dv (I 0)]] 6 (vK false (cS s1 S j)) 0 [] (vS false true true (nV (cS s1 S j) i5 (bL (S.drop j) i5) st.tick n c)):=by
           cases Jc:(s.sl.getD i5 (true,[])).1 with
           | true =>
            have Qy:bL (S.drop j) i5=[]:=lq (by have h1:=h.I4; have hg:=List.getElem?_eq_getElem (l:=s.sl) (i:=i5) (by omega); rw [List.getD_eq_getElem?_getD,hg] at Jc; generalize s.sl[i5]=q at hg Jc; obtain ⟨f7,l7⟩:=q; rw [←h.sl _ _ _ hg]; exact h.sf _ _ _ hg Jc) j
            rw [Qy]
            exact uZ _ i5 (by show (c7 s1 S j)[i5]?=_; rw [k7,t7,Jc,Qy]) _ _ _ ⟨by simp only [cS]; omega,by simp only [cS]; omega⟩ (by simp only [cS,List.length_drop,k1]; omega)
           | false =>
            exact u4 _ i5 _ (by show (c7 s1 S j)[i5]?=_; rw [k7,t7,Jc]) _ _ _ ⟨by simp only [cS]; omega,by simp only [cS]; omega⟩ (by simp only [cS,List.length_drop,k1]; omega) t9 ⟨t8.1,t8.2.1⟩ t8.2.2 ⟨by omega,by omega⟩ ⟨by omega,by omega⟩
          have q8:lk s S st (.ok A) [.dv (I 0)] (vS false true true { nV (cS s1 S j) i5 (bL (S.drop j) i5) st.tick n c with last:=st.tick }):=by
           refine ⟨done,k6,rfl,?_⟩
           rw [eT,←k5,ET,nI]
           have h0:cn s S st s1={ nV (cS s1 S j) i5 (bL (S.drop j) i5) st.tick n c with last:=st.tick }:=by unfold cn; rw [ET,nI]; rfl
           rw [h0]; simp
          cases hh
          ·refine .inr ⟨[0,1,2,3,4,5],[.ptr 0 0,.dv (I i5),.agg [.dv (I st.tick),.dv (I n),.dv (I c),.dv (I 0),.dv (I 0)]],vK false (cS s1 S j),0,_,_,Bf,by kernel_rfl,by kernel_rfl,⟨rfl,rf,⟨rf,rf,rf,rf,rf,tv⟩,tv⟩,⟨⟨rf,rf,rf,rf,rf,rf,rfl,rfl,rfl,rfl,rfl,tv⟩,⟨rfl,rfl⟩,⟨rfl,rfl⟩,⟨rfl,rfl⟩,⟨rfl,by rw [←k7]; rfl⟩,⟨rfl,tG⟩,tv⟩,?_⟩
           exact ⟨_,_,q8,by kernel_rfl,⟨rf,tv⟩,⟨rf,rf,rf,rf,rf,rf,rfl,rfl,rfl,rfl,rfl,tv⟩,⟨rfl,rfl⟩,⟨rfl,rfl⟩,⟨rfl,rfl⟩,⟨rfl,rfl⟩,⟨rfl,rfl⟩,tv⟩
          ·refine .inr ⟨[0,1,2,3,4,5],[.ptr 0 0,.dv (I i5),.agg [.dv (I st.tick),.dv (I n),.dv (I c),.dv (I 0),.dv (I 0)]],vK false (cS s1 S j),0,_,_,Bf,by kernel_rfl,by kernel_rfl,⟨rfl,rf,⟨rf,rf,rf,rf,rf,tv⟩,tv⟩,⟨⟨rf,rf,rf,rf,rf,rf,rfl,rfl,rfl,rfl,rfl,tv⟩,⟨rfl,rfl⟩,⟨rfl,rfl⟩,⟨rfl,rfl⟩,⟨rfl,by rw [←k7]; rfl⟩,⟨rfl,tG⟩,tv⟩,?_⟩
           exact ⟨_,_,q8,by kernel_rfl,⟨rf,tv⟩,⟨rf,rf,rf,rf,rf,rf,rfl,rfl,rfl,rfl,rfl,tv⟩,⟨rfl,rfl⟩,⟨rfl,rfl⟩,⟨rfl,rfl⟩,⟨rfl,rfl⟩,⟨rfl,rfl⟩,tv⟩
       ·refine .inr (.inl ⟨fun _=>⟨by simp,by simp,by simp only [k1,List.length_map,Option.getD_some]; omega⟩,?_⟩)
        refine ⟨Qv,RB s s1 S st it n c true lv true,fun z=>z.j≤lv∧z.h=decide (0<z.j),fun z=>lv - z.j,⟨0,false⟩,fun z=>by obtain ⟨z1,z2⟩:=z; cases z2 <;> rfl,?_,?_,?_⟩
        ·exact ⟨⟨rfl,rfl,rf,rf,rf,rf,rf,rfl,rf,rf,tv⟩,⟨⟨rf,rf,rf,rf,rf,rf,rfl,rfl,rfl,rfl,rfl,tv⟩,⟨rfl,rfl⟩,⟨rfl,rfl⟩,⟨rfl,rfl⟩,⟨rfl,by rw [Qx]⟩,⟨rfl,rfl⟩,⟨rf,rf,rf,rf,rf,rf,rf,tv⟩,tv⟩,rfl,rfl⟩
        ·exact ⟨Nat.zero_le _,rfl⟩
        ·rintro ⟨j,hh⟩ ⟨q1,q2⟩
         simp only at q1 q2
         refine ⟨fun aK=>?_,fun db=>?_⟩
         ·have aK:j<lv:=by have:=of_decide_eq_true aK; simp only [Int.ofNat_lt] at this; exact this
          obtain ⟨⟨i4,x0⟩,jO⟩:∃q,S[j]?=some q:=⟨_,List.getElem?_eq_getElem (by omega)⟩
          have Og:i4<4:=h.it _ (List.mem_of_getElem? jO)
          have si:(s1.bD.map I)[0+((j:Int)).toNat]?=some (I (i4:Int)):=by rw [k1,h.bD,List.map_map,List.getElem?_map,Nat.zero_add,Int.toNat_natCast,jO]; rfl
          obtain ⟨e1,e2⟩:=nw h jO
          have gX:((c7 s S j).map lI)[((i4:Int)).toNat]?=some (.ar 5 (bO x0::(bL (S.drop (j+1)) i4).map bO)):=by rw [List.getElem?_map,Int.toNat_natCast,e1]; rfl
          refine ⟨fun _=>⟨by simp only; omega,by simp only; omega⟩,I (i4:Int),fun _=>si,?_⟩
          have ea:(0:Int)≤(i4:Int)∧(i4:Int)<(((c7 s S j).map lI).length:Int):=⟨by omega,by rw [List.length_map,cd]; omega⟩
          have b4:DV.ar 1 ((((c7 s S j).map lI).set ((i4:Int)).toNat .any).set ((i4:Int)).toNat (.ar 5 ((bL (S.drop (j+1)) i4).map bO)))=.ar 1 ((c7 s S (j+1)).map lI):=by
           rw [List.set_set,Int.toNat_natCast,e2,List.map_set]; rfl
          have u9:DV.ar 5 (List.drop 1 (List.take ((((bO x0::(bL (S.drop (j+1)) i4).map bO).length:Nat):Int)).toNat (bO x0::(bL (S.drop (j+1)) i4).map bO)))=DV.ar 5 ((bL (S.drop (j+1)) i4).map bO):=by
           rw [Int.toNat_natCast,List.take_length]; rfl
          cases hh
          ·refine ⟨fun _=>ea,.ar 5 (bO x0::(bL (S.drop (j+1)) i4).map bO),fun _=>gX,?_⟩
           refine .inr (.inr ⟨.ar 5 (bO x0::(bL (S.drop (j+1)) i4).map bO),fun _=>gX,⟨by simp,by simp; omega,by simp⟩,?_⟩)
           refine ⟨.ar 5 (bO x0::(bL (S.drop (j+1)) i4).map bO),gX,?_⟩
           refine ⟨fun _=>by rw [List.length_set]; exact ea,[.ar 5 ((bL (S.drop (j+1)) i4).map bO)],⟨u9,tv⟩,.any,List.getElem?_set_self (by rw [List.length_map,cd]; omega),?_⟩
           refine ⟨by kernel_rfl,fun _=>⟨by simp only; omega,by simp only; omega⟩,⟨j+1,true⟩,⟨⟨rfl,rfl,rf,rf,rf,rf,rf,rfl,rf,bq (by simp),tv⟩,⟨⟨rf,rf,rf,rf,rf,rf,rfl,rfl,rfl,rfl,rfl,tv⟩,⟨rfl,rfl⟩,⟨rfl,rfl⟩,⟨rfl,rfl⟩,⟨rfl,b4⟩,⟨rfl,rfl⟩,⟨rf,rf,rf,rf,rf,rf,rf,tv⟩,tv⟩,rfl,rfl⟩,⟨by simp only; omega,by simp⟩,by simp only; omega⟩
          ·refine ⟨fun _=>ea,.ar 5 (bO x0::(bL (S.drop (j+1)) i4).map bO),fun _=>gX,?_⟩
           refine .inr (.inr ⟨.ar 5 (bO x0::(bL (S.drop (j+1)) i4).map bO),fun _=>gX,⟨by simp,by simp; omega,by simp⟩,?_⟩)
           refine ⟨.ar 5 (bO x0::(bL (S.drop (j+1)) i4).map bO),gX,?_⟩
           refine ⟨fun _=>by rw [List.length_set]; exact ea,[.ar 5 ((bL (S.drop (j+1)) i4).map bO)],⟨u9,tv⟩,.any,List.getElem?_set_self (by rw [List.length_map,cd]; omega),?_⟩
           refine ⟨by kernel_rfl,fun _=>⟨by simp only; omega,by simp only; omega⟩,⟨j+1,true⟩,⟨⟨rfl,rfl,rf,rf,rf,rf,rf,rfl,rf,bq (by simp),tv⟩,⟨⟨rf,rf,rf,rf,rf,rf,rfl,rfl,rfl,rfl,rfl,tv⟩,⟨rfl,rfl⟩,⟨rfl,rfl⟩,⟨rfl,rfl⟩,⟨rfl,b4⟩,⟨rfl,rfl⟩,⟨rf,rf,rf,rf,rf,rf,rf,tv⟩,tv⟩,rfl,rfl⟩,⟨by simp only; omega,by simp⟩,by simp only; omega⟩
         ·have db:j=lv:=by have:=of_decide_eq_false db; simp only [Int.ofNat_lt] at this; omega
          subst db
          have tG:DV.ar 1 (List.drop ((j:Int)).toNat (List.take (((s1.bD.map I).length:Nat):Int).toNat (s1.bD.map I)))=vK.gv (s1.bD.drop j):=by
           rw [Int.toNat_natCast,Int.toNat_natCast,List.take_length,←List.map_drop]; rfl
          refine .inl ⟨⟨by simp,by simp only [Option.getD_some,Option.getD_none,List.length_map,k1,k3]; omega,by simp⟩,fun _=>⟨by simp only; omega,by simp only; omega⟩,?_⟩
          refine ⟨fun _=>?_,fun h9=>by cases h9⟩
          have k7:c7 s1 S j=c7 s S j:=by unfold c7; rw [k2]
          obtain ⟨t1,t2,t3,t4,t5,t6⟩:=MA A it n c hA rfl
          obtain ⟨i5,rfl⟩:∃i5:Nat,it=(i5:Int):=⟨it.toNat,by omega⟩
          have t7:=gY s S j i5 (by omega)
          have t8:=Qw j i5
          have t9:(bL (S.drop j) i5).length≤1000:=by
           unfold bL; rw [List.length_map]
           refine Nat.le_trans (List.length_filter_le ..) ?_
           rw [List.length_drop]; have:=h.len; omega
          have Bf:bg Tryz.prog 54 [.ptr 0 0,.dv (I i5),.agg [.dv (I st.tick),.dv (I n),.dv (I c),.dv (I 0),.dv (I 0)]] 6 (vK false (cS s1 S j)) 0 [] (vS false true true (nV (cS s1 S j) i5 (bL (S.drop j) i5) st.tick n c)):=by
           cases Jc:(s.sl.getD i5 (true,[])).1 with
           | true =>
            have Qy:bL (S.drop j) i5=[]:=lq (by have h1:=h.I4; have hg:=List.getElem?_eq_getElem (l:=s.sl) (i:=i5) (by omega); rw [List.getD_eq_getElem?_getD,hg] at Jc; generalize s.sl[i5]=q at hg Jc; obtain ⟨f7,l7⟩:=q; rw [←h.sl _ _ _ hg]; exact h.sf _ _ _ hg Jc) j
            rw [Qy]
            exact uZ _ i5 (by show (c7 s1 S j)[i5]?=_; rw [k7,t7,Jc,Qy]) _ _ _ ⟨by simp only [cS]; omega,by simp only [cS]; omega⟩ (by simp only [cS,List.length_drop,k1]; omega)
           | false =>
            exact u4 _ i5 _ (by show (c7 s1 S j)[i5]?=_; rw [k7,t7,Jc]) _ _ _ ⟨by simp only [cS]; omega,by simp only [cS]; omega⟩ (by simp only [cS,List.length_drop,k1]; omega) t9 ⟨t8.1,t8.2.1⟩ t8.2.2 ⟨by omega,by omega⟩ ⟨by omega,by omega⟩
          have q8:lk s S st (.ok A) [.dv (I 0)] (vS true true true { nV (cS s1 S j) i5 (bL (S.drop j) i5) st.tick n c with last:=st.tick }):=by
           refine ⟨done,k6,rfl,?_⟩
           rw [eT,←k5,ET,nI]
           have h0:cn s S st s1={ nV (cS s1 S j) i5 (bL (S.drop j) i5) st.tick n c with last:=st.tick }:=by unfold cn; rw [ET,nI]; rfl
           rw [h0]; simp
          cases hh
          ·refine .inr ⟨[0,1,2,3,4,5],[.ptr 0 0,.dv (I i5),.agg [.dv (I st.tick),.dv (I n),.dv (I c),.dv (I 0),.dv (I 0)]],vK false (cS s1 S j),0,_,_,Bf,by kernel_rfl,by kernel_rfl,⟨rfl,rf,⟨rf,rf,rf,rf,rf,tv⟩,tv⟩,⟨⟨rf,rf,rf,rf,rf,rf,rfl,rfl,rfl,rfl,rfl,tv⟩,⟨rfl,rfl⟩,⟨rfl,rfl⟩,⟨rfl,rfl⟩,⟨rfl,by rw [←k7]; rfl⟩,⟨rfl,tG⟩,tv⟩,?_⟩
           exact ⟨_,_,q8,by kernel_rfl,⟨rf,tv⟩,⟨rf,rf,rf,rf,rf,rf,rfl,rfl,rfl,rfl,rfl,tv⟩,⟨rfl,rfl⟩,⟨rfl,rfl⟩,⟨rfl,rfl⟩,⟨rfl,rfl⟩,⟨rfl,rfl⟩,tv⟩
          ·refine .inr ⟨[0,1,2,3,4,5],[.ptr 0 0,.dv (I i5),.agg [.dv (I st.tick),.dv (I n),.dv (I c),.dv (I 0),.dv (I 0)]],vK false (cS s1 S j),0,_,_,Bf,by kernel_rfl,by kernel_rfl,⟨rfl,rf,⟨rf,rf,rf,rf,rf,tv⟩,tv⟩,⟨⟨rf,rf,rf,rf,rf,rf,rfl,rfl,rfl,rfl,rfl,tv⟩,⟨rfl,rfl⟩,⟨rfl,rfl⟩,⟨rfl,rfl⟩,⟨rfl,by rw [←k7]; rfl⟩,⟨rfl,tG⟩,tv⟩,?_⟩
           exact ⟨_,_,q8,by kernel_rfl,⟨rf,tv⟩,⟨rf,rf,rf,rf,rf,rf,rfl,rfl,rfl,rfl,rfl,tv⟩,⟨rfl,rfl⟩,⟨rfl,rfl⟩,⟨rfl,rfl⟩,⟨rfl,rfl⟩,⟨rfl,rfl⟩,tv⟩
      ·simp only at hU
       rw [List.getElem?_map] at hU
       obtain ⟨⟨k,x⟩,hk,rfl⟩:∃p,left[pos]?=some p∧cc=oY p:=by
        cases hq:left[pos]? with
        | none=>rw [hq] at hU; cases hU
        | some p=>rw [hq] at hU; exact ⟨p,rfl,by simpa using hU.symm⟩
       refine ⟨ln x,?_⟩
       have zE:(done++(k,x)::left.eraseIdx pos).Perm A:=((oN hk).append_left done).symm.trans g1
       obtain ⟨ii,bK,Ta⟩:=iy A hA done k x _ zE
       have cD:=A5 (aF s done) k ii x bK
       have AW:cu (aF s done) k ii x=aF s (done++[(k,x)]):=by
        unfold aF; rw [List.foldl_append]; show cu _ k ii x=cu _ k k.2.toNat x
        rw [show k.2.toNat=ii by have:=bK.it; omega]
       rw [AW,Ta] at cD
       have n6:fm s (done++[(k,x)])=(f || ck s k x):=by unfold fm; rw [List.any_append,g2]; simp [fm]
       cases f
       ·cases Jb:ck s k x
        ·rw [Jb] at cD n6
         refine .inr ⟨[0,1,2,3,4,5],[.ptr 0 0,.agg [.dv (I k.1),.dv (I k.2)],.dv (I x)],vK false (aF s done),0,_,_,cD,by kernel_rfl,by kernel_rfl,⟨rfl,⟨rf,rf,tv⟩,rf,tv⟩,⟨⟨rf,rf,rf,rf,rf,rf,rfl,rfl,rfl,rfl,rfl,tv⟩,⟨rfl,rfl⟩,⟨rfl,rfl⟩,⟨rfl,rfl⟩,⟨rfl,rfl⟩,⟨rfl,rfl⟩,tv⟩,?_⟩
         exact ⟨⟨left.eraseIdx pos,done++[(k,x)],false⟩,⟨⟨rfl,rfl,rf,rf,rf,rf,rf,rfl,tv⟩,⟨⟨rf,rf,rf,rf,rf,rf,rfl,rfl,rfl,rfl,rfl,tv⟩,⟨rfl,rfl⟩,⟨rfl,rfl⟩,⟨rfl,rfl⟩,⟨rfl,rfl⟩,⟨rfl,rfl⟩,⟨rf,rf,rf,rf,rf,rf,rf,tv⟩,tv,⟨rfl,rfl,rfl,cG _ _,.inl rfl,tv⟩,tv⟩,rfl,rfl⟩,⟨by simp only [List.append_assoc]; exact zE,n6.symm⟩,by simp only; have:=er hk; omega⟩
        ·rw [Jb] at cD n6
         refine .inr ⟨[0,1,2,3,4,5],[.ptr 0 0,.agg [.dv (I k.1),.dv (I k.2)],.dv (I x)],vK false (aF s done),0,_,_,cD,by kernel_rfl,by kernel_rfl,⟨rfl,⟨rf,rf,tv⟩,rf,tv⟩,⟨⟨rf,rf,rf,rf,rf,rf,rfl,rfl,rfl,rfl,rfl,tv⟩,⟨rfl,rfl⟩,⟨rfl,rfl⟩,⟨rfl,rfl⟩,⟨rfl,rfl⟩,⟨rfl,rfl⟩,tv⟩,?_⟩
         exact ⟨⟨left.eraseIdx pos,done++[(k,x)],true⟩,⟨⟨rfl,rfl,rf,rf,rf,rf,rf,rfl,tv⟩,⟨⟨rf,rf,rf,rf,rf,rf,rfl,rfl,rfl,rfl,rfl,tv⟩,⟨rfl,rfl⟩,⟨rfl,rfl⟩,⟨rfl,rfl⟩,⟨rfl,rfl⟩,⟨rfl,rfl⟩,⟨rf,rf,rf,rf,rf,rf,rf,tv⟩,tv,⟨rfl,rfl,rfl,cG _ _,.inl rfl,tv⟩,tv⟩,rfl,rfl⟩,⟨by simp only [List.append_assoc]; exact zE,n6.symm⟩,by simp only; have:=er hk; omega⟩
       ·cases Jb:ck s k x
        ·rw [Jb] at cD n6
         refine .inr ⟨[0,1,2,3,4,5],[.ptr 0 0,.agg [.dv (I k.1),.dv (I k.2)],.dv (I x)],vK false (aF s done),0,_,_,cD,by kernel_rfl,by kernel_rfl,⟨rfl,⟨rf,rf,tv⟩,rf,tv⟩,⟨⟨rf,rf,rf,rf,rf,rf,rfl,rfl,rfl,rfl,rfl,tv⟩,⟨rfl,rfl⟩,⟨rfl,rfl⟩,⟨rfl,rfl⟩,⟨rfl,rfl⟩,⟨rfl,rfl⟩,tv⟩,?_⟩
         exact ⟨⟨left.eraseIdx pos,done++[(k,x)],true⟩,⟨⟨rfl,rfl,rf,rf,rf,rf,rf,rfl,tv⟩,⟨⟨rf,rf,rf,rf,rf,rf,rfl,rfl,rfl,rfl,rfl,tv⟩,⟨rfl,rfl⟩,⟨rfl,rfl⟩,⟨rfl,rfl⟩,⟨rfl,rfl⟩,⟨rfl,rfl⟩,⟨rf,rf,rf,rf,rf,rf,rf,tv⟩,tv,⟨rfl,rfl,rfl,cG _ _,.inl rfl,tv⟩,tv⟩,rfl,rfl⟩,⟨by simp only [List.append_assoc]; exact zE,n6.symm⟩,by simp only; have:=er hk; omega⟩
        ·rw [Jb] at cD n6
         refine .inr ⟨[0,1,2,3,4,5],[.ptr 0 0,.agg [.dv (I k.1),.dv (I k.2)],.dv (I x)],vK false (aF s done),0,_,_,cD,by kernel_rfl,by kernel_rfl,⟨rfl,⟨rf,rf,tv⟩,rf,tv⟩,⟨⟨rf,rf,rf,rf,rf,rf,rfl,rfl,rfl,rfl,rfl,tv⟩,⟨rfl,rfl⟩,⟨rfl,rfl⟩,⟨rfl,rfl⟩,⟨rfl,rfl⟩,⟨rfl,rfl⟩,tv⟩,?_⟩
         exact ⟨⟨left.eraseIdx pos,done++[(k,x)],true⟩,⟨⟨rfl,rfl,rf,rf,rf,rf,rf,rfl,tv⟩,⟨⟨rf,rf,rf,rf,rf,rf,rfl,rfl,rfl,rfl,rfl,tv⟩,⟨rfl,rfl⟩,⟨rfl,rfl⟩,⟨rfl,rfl⟩,⟨rfl,rfl⟩,⟨rfl,rfl⟩,⟨rf,rf,rf,rf,rf,rf,rf,tv⟩,tv,⟨rfl,rfl,rfl,cG _ _,.inl rfl,tv⟩,tv⟩,rfl,rfl⟩,⟨by simp only [List.append_assoc]; exact zE,n6.symm⟩,by simp only; have:=er hk; omega⟩
    ·simp only at hU
     rw [List.getElem?_map] at hU
     obtain ⟨⟨k,x⟩,hk,rfl⟩:∃p,left[pos]?=some p∧cc=oY p:=by
      cases hq:left[pos]? with
      | none=>rw [hq] at hU; cases hU
      | some p=>rw [hq] at hU; exact ⟨p,rfl,by simpa using hU.symm⟩
     refine ⟨ln x,?_⟩
     refine ⟨gH,vR k,rfl,rfl,I (hv s.H k),(bs s.H k).isSome,fun _=>Bb s.H k,ER s.H k,rfl,?_⟩
     refine ⟨by kernel_rfl,?_⟩
     repeat first | refine ⟨id,?_⟩ | refine ⟨fun _ h=>dB h,?_⟩ | refine ⟨fun _ h=>aA h,?_⟩ | refine ⟨fun h=>⟨h,fun h2=>bW h h2⟩,?_⟩ | refine ⟨fun h=>⟨h,fun h2=>br h h2⟩,?_⟩
     have Ce:=oM s.H hk
     have hle:=er hk
     refine ⟨fun hq=>?_,fun hq=>?_⟩
     ·have hd:I8 s.H (k,x)=1:=by
       show (bif (bif hv s.H k == 0 then x != 0 else false) then (1:Int) else _)=1
       rw [show (bif hv s.H k == 0 then x != 0 else false)=true from hq]; rfl
      have h0:hv s.H k=0:=by
       cases hz:(hv s.H k == 0) with
       | true=>simpa using hz
       | false=>rw [hz] at hq; cases hq
      refine ⟨fun _=>⟨by simp only; omega,by simp only; omega⟩,?_⟩
      repeat first | refine ⟨id,?_⟩ | refine ⟨fun _ h=>dB h,?_⟩ | refine ⟨fun _ h=>aA h,?_⟩ | refine ⟨fun h=>⟨h,fun h2=>bW h h2⟩,?_⟩ | refine ⟨fun h=>⟨h,fun h2=>br h h2⟩,?_⟩
      refine ⟨fun hr=>absurd hr (by rw [h0]; simp),fun _=>?_⟩
      exact ⟨⟨left.eraseIdx pos,sz+1⟩,⟨⟨rfl,rfl,rfl,rf,rf,rf,rf,rf,rf,rfl,tv⟩,⟨⟨rf,rf,rf,rf,rf,rf,rfl,rfl,rfl,rfl,rfl,tv⟩,⟨rfl,rfl⟩,⟨rfl,rfl⟩,⟨rfl,rfl⟩,⟨rfl,rfl⟩,⟨rfl,rfl⟩,⟨rf,rf,rf,rf,rf,rf,rf,tv⟩,tv,⟨rfl,rfl,rfl,cG _ _,.inl rfl,tv⟩,tv⟩,rfl,rfl⟩,⟨by simp only; omega,by simp only; omega,by simp only; omega,by simp only; omega⟩,by simp only; omega⟩
     ·repeat first | refine ⟨id,?_⟩ | refine ⟨fun _ h=>dB h,?_⟩ | refine ⟨fun _ h=>aA h,?_⟩ | refine ⟨fun h=>⟨h,fun h2=>bW h h2⟩,?_⟩ | refine ⟨fun h=>⟨h,fun h2=>br h h2⟩,?_⟩
      refine ⟨fun hr=>?_,fun hr=>?_⟩
      ·have hd:I8 s.H (k,x)=-1:=by
        show (bif (bif hv s.H k == 0 then x != 0 else false) then (1:Int) else bif (bif hv s.H k != 0 then x == 0 else false) then -1 else 0)=-1
        rw [show (bif hv s.H k == 0 then x != 0 else false)=false from hq,show (bif hv s.H k != 0 then x == 0 else false)=true from hr]; rfl
       refine ⟨fun _=>⟨by simp only; omega,by simp only; omega⟩,?_⟩
       exact ⟨⟨left.eraseIdx pos,sz - 1⟩,⟨⟨rfl,rfl,rfl,rf,rf,rf,rf,rf,rf,rfl,tv⟩,⟨⟨rf,rf,rf,rf,rf,rf,rfl,rfl,rfl,rfl,rfl,tv⟩,⟨rfl,rfl⟩,⟨rfl,rfl⟩,⟨rfl,rfl⟩,⟨rfl,rfl⟩,⟨rfl,rfl⟩,⟨rf,rf,rf,rf,rf,rf,rf,tv⟩,tv,⟨rfl,rfl,rfl,cG _ _,.inl rfl,tv⟩,tv⟩,rfl,rfl⟩,⟨by simp only; omega,by simp only; omega,by simp only; omega,by simp only; omega⟩,by simp only; omega⟩
      ·have hd:I8 s.H (k,x)=0:=by
        show (bif (bif hv s.H k == 0 then x != 0 else false) then (1:Int) else bif (bif hv s.H k != 0 then x == 0 else false) then -1 else 0)=0
        rw [show (bif hv s.H k == 0 then x != 0 else false)=false from hq,show (bif hv s.H k != 0 then x == 0 else false)=false from hr]; rfl
       exact ⟨⟨left.eraseIdx pos,sz⟩,⟨⟨rfl,rfl,rfl,rf,rf,rf,rf,rf,rf,rfl,tv⟩,⟨⟨rf,rf,rf,rf,rf,rf,rfl,rfl,rfl,rfl,rfl,tv⟩,⟨rfl,rfl⟩,⟨rfl,rfl⟩,⟨rfl,rfl⟩,⟨rfl,rfl⟩,⟨rfl,rfl⟩,⟨rf,rf,rf,rf,rf,rf,rf,tv⟩,tv,⟨rfl,rfl,rfl,cG _ _,.inl rfl,tv⟩,tv⟩,rfl,rfl⟩,⟨by simp only; omega,by simp only; omega,by simp only; omega,by simp only; omega⟩,by simp only; omega⟩
end Go.Proofs.YtpbdohkbiklflaaGreatDoor
