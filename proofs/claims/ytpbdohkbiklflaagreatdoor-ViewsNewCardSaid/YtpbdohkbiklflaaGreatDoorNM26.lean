import Derived.Test.YtpbdohkbiklflaaGreatDoorNM25
set_option linter.unusedVariables false
set_option linter.unusedSimpArgs false
set_option linter.unusedSectionVars false
namespace Go.Proofs.YtpbdohkbiklflaaGreatDoor
open Go.TM
variable [KObj]
set_option maxRecDepth 100000
def setsM (s:Vs) (es:HM):Vs:=es.foldl (fun s e=>setM s e.1 e.1.2.toNat e.2) s
def dlt (H:HM) (e:Ky × Int):Int:=bif bif decide (hv H e.1=0) then !(decide (e.2=0)) else false then 1 else bif bif !(decide (hv H e.1=0)) then decide (e.2=0) else false then -1 else 0
def dlts (H:HM) (es:HM):Int:=(es.map (dlt H)).foldr (·+·) 0
def touchA (s:Vs) (es:HM):Bool:=es.any fun e=>touchM s e.1 e.2
def slAt (s:Vs) (S:SS) (j:Nat):List (Bool × List Sl):=(List.range 4).map fun i=>((s.sl.getD i (true,[])).1,ofI (S.drop j) i)
def leftM (s:Vs) (S:SS) (lv:Nat):Vs:={ s with sl:=slAt s S lv,sold:=s.sold.drop lv,work:=s.work+lv }
def finM (s:Vs) (S:SS) (lv:Nat) (sale:Bool) (it:Nat) (tick n c:Int):Vs :=
 let s2:=leftM s S lv
 let s3:=bif sale then sellM s2 it (ofI (S.drop lv) it) tick n c else s2
 {s3 with last:=tick }
inductive FdR where
 | err (e:Int)
 | ok (A:HM)
def szF (s:Vs) (S:SS) (st:St):Int:=(s.H.length:Int)+(s.sold.length:Int) - (leavN S (st.tick - s.window):Int)+(bif (saleM s.coin st).2.2.2 then 1 else 0)
def feedC (s:Vs) (S:SS) (st:St):FdR :=
 if (bif decide (st.tick<s.last) then true else decide (1099511627776<st.tick))=true then .err 1 else
 match haM s.H [] st.mv with
 | .err e=>.err e
 | .ok A=>if s.budget<szF s S st+dlts s.H A then .err 22 else .ok A
def feedF (s:Vs) (S:SS) (st:St) (s1:Vs):Vs:=finM s1 S (leavN S (st.tick - s.window)) (saleM s.coin st).2.2.2 (saleM s.coin st).1.toNat st.tick (saleM s.coin st).2.1 (saleM s.coin st).2.2.1
def feedRel (s:Vs) (S:SS) (st:St):FdR→List AV→Boxes→Prop
 | .err e,rs,k=>rs=[.dv (I e)]∧k=vK false s
 | .ok A,rs,k=>∃done:HM,done.Perm A∧rs=[.dv (I 0)]∧k=vKg (touchA s A) (decide (0<leavN S (st.tick - s.window)) || (saleM s.coin st).2.2.2) true (feedF s S st (setsM s done))
def stC (st:St):Box:=.cells [.dv (I st.id),.dv (I st.kind),.dv (I st.actor),.dv (I st.tick),.dv (I st.rule),.dv (I st.times),.dv (eMvs st.mv)]
theorem closed_int (x:Int):(I x).closedCells:=by
 intro d hd
 simp [DV.cells] at hd; subst hd; rfl
theorem erase_map {α β:Type} {f:α→β}:∀(l:List α) (i:Nat),(l.map f).eraseIdx i=(l.eraseIdx i).map f
 | [],_=>rfl
 | _::_,0=>rfl
 | x::l,i+1=>by simp only [List.map_cons,List.eraseIdx_cons_succ]; rw [erase_map l i]
theorem dlts_erase (H:HM) {e:Ky × Int}:∀{l:HM} {i:Nat},l[i]?=some e→dlts H l=dlt H e+dlts H (l.eraseIdx i)
 | [],_,h=>by simp at h
 | x::l,0,h=>by simp at h; subst h; rfl
 | x::l,i+1,h=>by
  have:=dlts_erase H (l:=l) (i:=i) (by simpa using h)
  show dlt H x+dlts H l=dlt H e+(dlt H x+dlts H (l.eraseIdx i))
  omega
theorem erase_len {α:Type} {l:List α} {i:Nat} {e:α} (h:l[i]?=some e):(l.eraseIdx i).length+1=l.length:=by
 have:=(List.getElem?_eq_some_iff.1 h).1
 rw [List.length_eraseIdx,if_pos this]; omega
structure Lp1 where
 left:HM
 sz:Int
def lp1 (s:Vs) (st:St) (A:HM) (it n c:Int) (b:Bool) (lv:Nat) (z:Lp1):AState:=⟨10,[(0,.ptr 0 0),(3,.ptr 6 0),(5,.own 8 0 0 []),(7,.dv (I it)),(8,.dv (I n)),(9,.dv (I c)),(10,.dv (B b)),(11,.dv (I lv)),(12,.dv (I z.sz)),(62,.ptr 9 0)],vK false s++[(6,stC st),(8,.held),(9,.itr 8 [] (.omap pairK (A.map eHe)) (z.left.map eHe) none)]⟩
theorem setM_sold (s:Vs) (k:Ky) (i:Nat) (x:Int):(setM s k i x).sold=s.sold:=by
 unfold setM; split <;> (try rfl) <;> (simp only; split <;> rfl)
theorem setM_sl (s:Vs) (k:Ky) (i:Nat) (x:Int):(setM s k i x).sl=s.sl:=by
 unfold setM; split <;> (try rfl) <;> (simp only; split <;> rfl)
theorem setsM_sold (s:Vs) (es:HM):(setsM s es).sold=s.sold:=by
 unfold setsM
 induction es generalizing s with
 | nil=>rfl
 | cons e r ih=>rw [List.foldl_cons,ih,setM_sold]
theorem setsM_sl (s:Vs) (es:HM):(setsM s es).sl=s.sl:=by
 unfold setsM
 induction es generalizing s with
 | nil=>rfl
 | cons e r ih=>rw [List.foldl_cons,ih,setM_sl]
theorem setM_work (s:Vs) (k:Ky) (i:Nat) (x:Int):s.work≤(setM s k i x).work∧(setM s k i x).work≤s.work+1:=by
 unfold setM; split
 ·omega
 ·simp only; split <;> (simp only; omega)
theorem setsM_work (s:Vs) (es:HM):s.work≤(setsM s es).work∧(setsM s es).work≤s.work+es.length:=by
 unfold setsM
 induction es generalizing s with
 | nil=>simp
 | cons e r ih =>
  rw [List.foldl_cons]
  have h1:=ih (setM s e.1 e.1.2.toNat e.2)
  have h2:=setM_work s e.1 e.1.2.toNat e.2
  simp only [List.length_cons]
  omega
theorem any_perm {α:Type} {l r:List α} (h:l.Perm r) (p:α→Bool):l.any p=r.any p:=by
 induction h with
 | nil=>rfl
 | cons x _ ih=>simp [ih]
 | swap x y l=>simp [Bool.or_left_comm]
 | trans _ _ ih1 ih2=>exact ih1.trans ih2
theorem sl_ext {a b:List (Bool × List Sl)} (ha:a.length=4) (hb:b.length=4) (h:∀i,i<4→a[i]?=b[i]?):a=b:=by
 apply List.ext_getElem?
 intro i
 rcases Nat.lt_or_ge i 4 with h4 | h4
 ·exact h i h4
 ·rw [List.getElem?_eq_none (by omega),List.getElem?_eq_none (by omega)]
theorem slAt_len (s:Vs) (S:SS) (j:Nat):(slAt s S j).length=4:=by simp [slAt]
theorem slAt_get (s:Vs) (S:SS) (j i:Nat) (hi:i<4):(slAt s S j)[i]?=some ((s.sl.getD i (true,[])).1,ofI (S.drop j) i):=by
 unfold slAt; rw [List.getElem?_map,List.getElem?_range hi]; rfl
theorem slAt_zero {s:Vs} {S:SS} (h:SalesOk s S):slAt s S 0=s.sl:=by
 refine sl_ext (slAt_len ..) h.sll fun i hi=>?_
 rw [slAt_get _ _ _ _ hi]
 have hl:i<s.sl.length:=by rw [h.sll]; exact hi
 have hx:=List.getElem?_eq_getElem hl
 rw [List.getD_eq_getElem?_getD,hx]
 generalize s.sl[i]=q at hx
 obtain ⟨f,l⟩:=q
 have:=h.sl _ _ _ hx
 rw [this]; rfl
theorem ofI_cons {S:SS} {j i:Nat} {x:Sl} (h:S[j]?=some (i,x)) (k:Nat):ofI (S.drop j) k=if i=k then x::ofI (S.drop (j+1)) k else ofI (S.drop (j+1)) k:=by
 have hlt:=(List.getElem?_eq_some_iff.1 h).1
 have hdr:S.drop j=(i,x)::S.drop (j+1):=by rw [List.drop_eq_getElem_cons hlt]; congr 1; rw [List.getElem?_eq_getElem hlt] at h; injection h
 rw [hdr]
 unfold ofI
 by_cases hk:i=k
 ·subst hk; simp
 ·simp [hk]
theorem slAt_step {s:Vs} {S:SS} (h:SalesOk s S) {j i:Nat} {x:Sl} (hx:S[j]?=some (i,x)):(slAt s S j)[i]?=some (false,x::ofI (S.drop (j+1)) i)∧slAt s S (j+1)=(slAt s S j).set i (false,ofI (S.drop (j+1)) i):=by
 have hi4:i<4:=h.it _ (List.mem_of_getElem? hx)
 have hl:i<s.sl.length:=by rw [h.sll]; exact hi4
 have hg:=List.getElem?_eq_getElem hl
 have hf:(s.sl.getD i (true,[])).1=false:=by
  rw [List.getD_eq_getElem?_getD,hg]
  generalize s.sl[i]=q at hg
  obtain ⟨f,l⟩:=q
  cases f with
  | false=>rfl
  | true =>
   have h1:=h.sl _ _ _ hg
   rw [h.sf _ _ _ hg rfl] at h1
   have h2:=ofI_cons hx i
   have hm:x∈ofI S i:=by
    unfold ofI
    exact List.mem_map.2 ⟨(i,x),List.mem_filter.2 ⟨List.mem_of_getElem? hx,by simp⟩,rfl⟩
   rw [←h1] at hm
   cases hm
 constructor
 ·rw [slAt_get _ _ _ _ hi4,hf,ofI_cons hx,if_pos rfl]
 ·refine sl_ext (slAt_len ..) (by rw [List.length_set]; exact slAt_len ..) fun k hk=>?_
  rw [slAt_get _ _ _ _ hk]
  by_cases hik:i=k
  ·subst hik
   rw [List.getElem?_set_self (by rw [slAt_len]; exact hi4),hf]
  ·rw [List.getElem?_set_ne hik,slAt_get _ _ _ _ hk,ofI_cons hx,if_neg hik]
structure Lp2 where
 left:HM
 done:HM
 f:Bool
theorem erase_perm {α:Type}:∀{l:List α} {i:Nat} {x:α},l[i]?=some x→l.Perm (x::l.eraseIdx i)
 | [],i,x,h=>by simp at h
 | y::l,0,x,h=>by simp at h; subst h; simp
 | y::l,i+1,x,h=>by
  simp only [List.getElem?_cons_succ] at h
  simp only [List.eraseIdx_cons_succ]
  exact ((erase_perm h).cons y).trans (List.Perm.swap x y _)
def lp2 (s:Vs) (st:St) (A:HM) (it n c:Int) (b:Bool) (lv:Nat) (z:Lp2):AState:=⟨11,[(0,.ptr 0 0),(3,.ptr 6 0),(7,.dv (I it)),(8,.dv (I n)),(9,.dv (I c)),(10,.dv (B b)),(11,.dv (I lv)),(97,.ptr 10 0)],vK z.f (setsM s z.done)++[(6,stC st),(8,.held),(10,.itr 8 [] (.omap pairK (A.map eHe)) (z.left.map eHe) none)]⟩
structure Lp3 where
 j:Nat
 h:Bool
def lp3 (s s1:Vs) (S:SS) (st:St) (it n c:Int) (b:Bool) (lv:Nat) (f:Bool) (z:Lp3):AState:=⟨11,[(0,.ptr 0 0),(3,.ptr 6 0),(7,.dv (I it)),(8,.dv (I n)),(9,.dv (I c)),(10,.dv (B b)),(11,.dv (I lv)),(112,.pre 5 0 0 [] 1 0 lv),(113,.dv (I lv)),(114,.dv (I z.j))],vKg f z.h false { s1 with sl:=slAt s S z.j }++[(6,stC st)]⟩
theorem hput_len (m:HM) (k:Ky) (x:Int):(hput m k x).length≤m.length+1:=by
 induction m with
 | nil=>simp [hput]
 | cons p r ih =>
  simp only [hput]
  split
  ·simp
  ·simp only [List.length_cons]; omega
theorem haM_len {H:HM}:∀{l:List Mv} {m A:HM},haM H m l=.ok A→A.length≤m.length+2 * l.length
 | [],m,A,h=>by simp only [haM] at h; injection h with h; subst h; simp
 | v::r,m,A,h=>by
  simp only [haM] at h
  split at h
  ·cases h
  have hp:∀m1:HM,(if v.t ≠ 0 then hput m1 (v.t,v.it) (hold m1 H (v.t,v.it)+v.n) else m1).length≤m1.length+1:=by
   intro m1; split
   ·exact hput_len ..
   ·omega
  split at h
  ·split at h
   ·cases h
   ·have h1:=haM_len h
    have h2:=hp (hput m (v.f,v.it) (hold m H (v.f,v.it) - v.n))
    have h3:=hput_len m (v.f,v.it) (hold m H (v.f,v.it) - v.n)
    simp only [List.length_cons]
    omega
  ·have h1:=haM_len h
   have h2:=hp m
   simp only [List.length_cons]
   omega
theorem haM_err {H:HM}:∀{l:List Mv} {m:HM} {e:Int},haM H m l=.err e→e ≠ 0
 | [],m,e,h=>by simp only [haM] at h; cases h
 | v::r,m,e,h=>by
  simp only [haM] at h
  split at h
  ·injection h with h; omega
  split at h
  ·split at h
   ·injection h with h; omega
   ·exact haM_err h
  ·exact haM_err h
theorem ofI_drop_nil {S:SS} {i:Nat} (h:ofI S i=[]) (j:Nat):ofI (S.drop j) i=[]:=by
 cases hq:ofI (S.drop j) i with
 | nil=>rfl
 | cons x r =>
  have hm:x∈ofI (S.drop j) i:=by rw [hq]; exact List.mem_cons_self
  unfold ofI at hm
  obtain ⟨p,h1,h2⟩:=List.mem_map.1 hm
  obtain ⟨h3,h4⟩:=List.mem_filter.1 h1
  have h5:x∈ofI S i:=by
   unfold ofI
   exact List.mem_map.2 ⟨p,List.mem_filter.2 ⟨List.mem_of_mem_drop h3,h4⟩,h2⟩
  rw [h] at h5; cases h5
set_option maxHeartbeats 4000000 in
theorem feed_walk (s:Vs) (S:SS) (h:SalesOk s S) (st:St) (hl:st.mv.length≤1000) (hH:∀k,0≤hv s.H k∧hv s.H k≤1152921504606846976) (hsz:s.H.length≤100000) (hw:1≤s.window∧s.window≤1099511627776) (hlast:0≤s.last) (hwk:0≤s.work∧s.work≤1152921504606846976) (hsum:∀j i,0≤sum1 (ofI (S.drop j) i)∧sum1 (ofI (S.drop j) i)≤1152921504606846976∧0≤sum2 (ofI (S.drop j) i)∧sum2 (ofI (S.drop j) i)≤1152921504606846976)
  (hsale:∀A it n c,haM s.H [] st.mv=.ok A→saleM s.coin st=(it,n,c,true)→0≤it∧it<4∧1≤n∧n≤1099511627776∧1≤c∧c≤1099511627776)
  (hset:∀A,haM s.H [] st.mv=.ok A→∀done k now left,(done++(k,now)::left).Perm A→∃i:Nat,SetOk (setsM s done) k i now∧touchM (setsM s done) k now=touchM s k now) :
  CSpecR Tryz.prog 21 [.ptr 0 0,aSt st] 6 (vK false s) 9 (feedRel s S st (feedC s S st)):=by
 refine cspecR_of tab_ok mixed (calls_snd _) (range_snd _) Tryz.func21 rfl rfl (by kernel_rfl) ?_
 repeat first | refine ⟨id,?_⟩ | refine ⟨fun _ h=>bw_f h,?_⟩ | refine ⟨fun _ h=>bw_t h,?_⟩ | refine ⟨fun h=>⟨h,fun h2=>bw_and h h2⟩,?_⟩ | refine ⟨fun h=>⟨h,fun h2=>bw_andf h h2⟩,?_⟩
 refine ⟨by kernel_rfl,fun hc=>?_,fun hc=>?_⟩
 ·have hr:feedC s S st=.err 1:=by unfold feedC; rw [if_pos hc]
  rw [hr]
  exact ⟨_,_,⟨rfl,rfl⟩,by kernel_rfl,⟨rf,tv⟩,⟨rf,rf,rf,rf,rf,rf,rfl,rfl,rfl,rfl,rfl,tv⟩,⟨rfl,rfl⟩,⟨rfl,rfl⟩,⟨rfl,rfl⟩,⟨rfl,rfl⟩,⟨rfl,rfl⟩,tv⟩
 have htk:s.last≤st.tick∧st.tick≤1099511627776:=by
  simp only [Bool.cond_true_left,Bool.or_eq_false_iff,decide_eq_false_iff_not] at hc; omega
 have hlv:=leaving_spec s S h st.tick (by omega)
 have hss:=size_spec s (by rw [h.sold,List.length_map]; have:=h.len; omega)
 have hsp:=ha_spec s st.mv hl hH
 have hfc:feedC s S st=match haM s.H [] st.mv with
  | .err e=>.err e
  | .ok A=>if s.budget<szF s S st+dlts s.H A then .err 22 else .ok A:=by
  unfold feedC; rw [if_neg (by rw [hc]; simp)]
 cases hA:haM s.H [] st.mv with
 | err e =>
  rw [hA] at hsp hfc
  simp only at hfc
  have he0:e ≠ 0:=haM_err hA
  refine .inr ⟨[0,1,2,3,4,5],[.ptr 0 0,.dv (eMvs st.mv)],vK false s,2,_,_,hsp,by kernel_rfl,by kernel_rfl,⟨rfl,rf,tv⟩,⟨⟨rf,rf,rf,rf,rf,rf,rfl,rfl,rfl,rfl,rfl,tv⟩,⟨rfl,rfl⟩,⟨rfl,rfl⟩,⟨rfl,rfl⟩,⟨rfl,rfl⟩,⟨rfl,rfl⟩,tv⟩,?_⟩
  refine ⟨fun _=>?_,fun h9=>absurd h9 (by simpa using he0)⟩
  rw [hfc]
  exact ⟨_,_,⟨rfl,rfl⟩,by kernel_rfl,⟨rf,tv⟩,⟨rf,rf,rf,rf,rf,rf,rfl,rfl,rfl,rfl,rfl,tv⟩,⟨rfl,rfl⟩,⟨rfl,rfl⟩,⟨rfl,rfl⟩,⟨rfl,rfl⟩,⟨rfl,rfl⟩,tv⟩
 | ok A =>
  rw [hA] at hsp hfc
  simp only at hfc
  refine .inr ⟨[0,1,2,3,4,5],[.ptr 0 0,.dv (eMvs st.mv)],vK false s,2,_,_,hsp,by kernel_rfl,by kernel_rfl,⟨rfl,rf,tv⟩,⟨⟨rf,rf,rf,rf,rf,rf,rfl,rfl,rfl,rfl,rfl,tv⟩,⟨rfl,rfl⟩,⟨rfl,rfl⟩,⟨rfl,rfl⟩,⟨rfl,rfl⟩,⟨rfl,rfl⟩,tv⟩,?_⟩
  refine ⟨fun h9=>by simp at h9,fun _=>?_⟩
  have hsa0:=saleOf_spec s st
  generalize hsa:saleM s.coin st=sa at *
  obtain ⟨it,n,c,b⟩:=sa
  refine .inr ⟨[0,1,2,3,4,5],[.ptr 0 0,aSt st],vK false s,0,_,_,hsa0,by kernel_rfl,by kernel_rfl,⟨rfl,⟨rf,rf,rf,rf,rf,rf,rf,tv⟩,tv⟩,⟨⟨rf,rf,rf,rf,rf,rf,rfl,rfl,rfl,rfl,rfl,tv⟩,⟨rfl,rfl⟩,⟨rfl,rfl⟩,⟨rfl,rfl⟩,⟨rfl,rfl⟩,⟨rfl,rfl⟩,tv⟩,?_⟩
  refine .inr ⟨[0,1,2,3,4,5],[.ptr 0 0,.dv (I st.tick)],vK false s,0,_,_,hlv,by kernel_rfl,by kernel_rfl,⟨rfl,rf,tv⟩,⟨⟨rf,rf,rf,rf,rf,rf,rfl,rfl,rfl,rfl,rfl,tv⟩,⟨rfl,rfl⟩,⟨rfl,rfl⟩,⟨rfl,rfl⟩,⟨rfl,rfl⟩,⟨rfl,rfl⟩,tv⟩,?_⟩
  refine .inr ⟨[0,1,2,3,4,5],[.ptr 0 0],vK false s,0,_,_,hss,by kernel_rfl,by kernel_rfl,⟨rfl,tv⟩,⟨⟨rf,rf,rf,rf,rf,rf,rfl,rfl,rfl,rfl,rfl,tv⟩,⟨rfl,rfl⟩,⟨rfl,rfl⟩,⟨rfl,rfl⟩,⟨rfl,rfl⟩,⟨rfl,rfl⟩,tv⟩,?_⟩
  have hlvb:leavN S (st.tick - s.window)≤1000:=Nat.le_trans (by unfold leavN; exact (List.takeWhile_sublist _).length_le) h.len
  have hsol:s.sold.length≤1000:=by rw [h.sold,List.length_map]; exact h.len
  refine ⟨fun _=>⟨by omega,by omega⟩,?_⟩
  have hAl:A.length≤100000:=by have:=haM_len hA; simp only [List.length_nil] at this; omega
  generalize hlvn:leavN S (st.tick - s.window)=lv at *
  cases b
  ·refine ⟨fun hb=>(by cases hb),fun _=>?_⟩
   obtain ⟨z0,hz0⟩:∃z0:Int,(s.H.length:Int)+(s.sold.length:Int) - (lv:Int)=z0:=⟨_,rfl⟩
   have hzF:szF s S st=z0:=by unfold szF; rw [hsa,hlvn]; simp only [cond_false,Int.add_zero]; exact hz0
   have hzb:-1000≤z0∧z0≤1000000:=by omega
   rw [hzF] at hfc
   refine ⟨Lp1,lp1 s st A it n c false lv,fun z=>z.sz+dlts s.H z.left=z0+dlts s.H A∧z0 - ((A.length:Int) - (z.left.length:Int))≤z.sz∧z.sz≤z0+((A.length:Int) - (z.left.length:Int))∧z.left.length≤A.length,fun z=>z.left.length,⟨A,z0⟩,fun _=>rfl,?_,?_,?_⟩
   ·exact ⟨⟨rfl,rfl,rfl,rf,rf,rf,rf,rf,le_int hz0,rfl,tv⟩,⟨⟨rf,rf,rf,rf,rf,rf,rfl,rfl,rfl,rfl,rfl,tv⟩,⟨rfl,rfl⟩,⟨rfl,rfl⟩,⟨rfl,rfl⟩,⟨rfl,rfl⟩,⟨rfl,rfl⟩,⟨rf,rf,rf,rf,rf,rf,rf,tv⟩,tv,⟨rfl,rfl,rfl,rfl,.inl rfl,tv⟩,tv⟩,rfl,rfl⟩
   ·exact ⟨rfl,by simp only; omega,by simp only; omega,Nat.le_refl _⟩
   ·rintro ⟨left,sz⟩ ⟨h1,h2,h3,h4⟩
    simp only at h1 h2 h3 h4
    refine ⟨tv,fun h5=>⟨(fun h6=>by cases h6),fun _=>?_⟩,fun pos cc hcc=>⟨fun _=>?_,fun h6=>by cases h6⟩⟩
    ·have hz:left=[]:=by simpa using h5
     subst hz
     have hszA:sz=z0+dlts s.H A:=by have:dlts s.H []=0:=rfl; omega
     refine ⟨fun hq=>?_,fun hq=>?_⟩
     ·have hq:s.budget<sz:=of_decide_eq_true hq
      rw [if_pos (by omega)] at hfc
      rw [hfc]
      exact ⟨_,_,⟨rfl,rfl⟩,by kernel_rfl,⟨rf,tv⟩,⟨rf,rf,rf,rf,rf,rf,rfl,rfl,rfl,rfl,rfl,tv⟩,⟨rfl,rfl⟩,⟨rfl,rfl⟩,⟨rfl,rfl⟩,⟨rfl,rfl⟩,⟨rfl,rfl⟩,tv⟩
     have hq:¬ s.budget<sz:=of_decide_eq_false hq
     rw [if_neg (by omega)] at hfc
     rw [hfc]
     refine ⟨Lp2,lp2 s st A it n c false lv,fun z=>(z.done++z.left).Perm A∧z.f=touchA s z.done,fun z=>z.left.length,⟨A,[],false⟩,fun z=>by obtain ⟨z1,z2,z3⟩:=z; cases z3 <;> rfl,?_,?_,?_⟩
     ·exact ⟨⟨rfl,rfl,rf,rf,rf,rf,rf,rfl,tv⟩,⟨⟨rf,rf,rf,rf,rf,rf,rfl,rfl,rfl,rfl,rfl,tv⟩,⟨rfl,rfl⟩,⟨rfl,rfl⟩,⟨rfl,rfl⟩,⟨rfl,rfl⟩,⟨rfl,rfl⟩,⟨rf,rf,rf,rf,rf,rf,rf,tv⟩,tv,⟨rfl,rfl,rfl,rfl,.inl rfl,tv⟩,tv⟩,rfl,rfl⟩
     ·exact ⟨List.Perm.refl _,rfl⟩
     ·rintro ⟨left,done,f⟩ ⟨g1,g2⟩
      simp only at g1 g2
      refine ⟨tv,fun h5=>⟨(fun h6=>by cases h6),fun _=>?_⟩,fun pos cc hcc=>⟨fun _=>?_,fun h6=>by cases h6⟩⟩
      ·have hz:left=[]:=by simpa using h5
       subst hz
       have k1:(setsM s done).sold=s.sold:=setsM_sold s done
       have k2:(setsM s done).sl=s.sl:=setsM_sl s done
       have k3:s.sold.length=S.length:=by rw [h.sold,List.length_map]
       have k4:lv≤S.length:=by rw [←hlvn]; unfold leavN; exact (List.takeWhile_sublist _).length_le
       have k5:f=touchA s A:=by rw [g2]; unfold touchA; exact any_perm (by simpa using g1) _
       have k6:done.Perm A:=by simpa using g1
       have k8:=setsM_work s done
       have k9:done.length≤100000:=by rw [k6.length_eq]; exact hAl
       generalize hs1:setsM s done=s1 at *
       have sl0:slAt s S 0=s1.sl:=by rw [k2]; exact slAt_zero h
       cases f
       ·refine .inr (.inl ⟨fun _=>⟨by simp,by simp,by simp only [k1,List.length_map,Option.getD_some]; omega⟩,?_⟩)
        refine ⟨Lp3,lp3 s s1 S st it n c false lv false,fun z=>z.j≤lv∧z.h=decide (0<z.j),fun z=>lv - z.j,⟨0,false⟩,fun z=>by obtain ⟨z1,z2⟩:=z; cases z2 <;> rfl,?_,?_,?_⟩
        ·exact ⟨⟨rfl,rfl,rf,rf,rf,rf,rf,rfl,rf,rf,tv⟩,⟨⟨rf,rf,rf,rf,rf,rf,rfl,rfl,rfl,rfl,rfl,tv⟩,⟨rfl,rfl⟩,⟨rfl,rfl⟩,⟨rfl,rfl⟩,⟨rfl,by rw [sl0]⟩,⟨rfl,rfl⟩,⟨rf,rf,rf,rf,rf,rf,rf,tv⟩,tv⟩,rfl,rfl⟩
        ·exact ⟨Nat.zero_le _,rfl⟩
        ·rintro ⟨j,hh⟩ ⟨q1,q2⟩
         simp only at q1 q2
         refine ⟨fun hlt=>?_,fun hge=>?_⟩
         ·have hlt:j<lv:=by have:=of_decide_eq_true hlt; simp only [Int.ofNat_lt] at this; exact this
          obtain ⟨⟨i4,x0⟩,hx0⟩:∃q,S[j]?=some q:=⟨_,List.getElem?_eq_getElem (by omega)⟩
          have hi4:i4<4:=h.it _ (List.mem_of_getElem? hx0)
          have hso:(s1.sold.map I)[0+((j:Int)).toNat]?=some (I (i4:Int)):=by rw [k1,h.sold,List.map_map,List.getElem?_map,Nat.zero_add,Int.toNat_natCast,hx0]; rfl
          obtain ⟨e1,e2⟩:=slAt_step h hx0
          have hse:((slAt s S j).map eSs)[((i4:Int)).toNat]?=some (.osl 5 (eSl x0::(ofI (S.drop (j+1)) i4).map eSl)):=by rw [List.getElem?_map,Int.toNat_natCast,e1]; rfl
          refine ⟨fun _=>⟨by simp only; omega,by simp only; omega⟩,I (i4:Int),fun _=>hso,?_⟩
          have hin:(0:Int)≤(i4:Int)∧(i4:Int)<(((slAt s S j).map eSs).length:Int):=⟨by omega,by rw [List.length_map,slAt_len]; omega⟩
          have b4:DV.osl 1 ((((slAt s S j).map eSs).set ((i4:Int)).toNat .any).set ((i4:Int)).toNat (.osl 5 ((ofI (S.drop (j+1)) i4).map eSl)))=.osl 1 ((slAt s S (j+1)).map eSs):=by
           rw [List.set_set,Int.toNat_natCast,e2,List.map_set]; rfl
          have hdr1:DV.osl 5 (List.drop 1 (List.take ((((eSl x0::(ofI (S.drop (j+1)) i4).map eSl).length:Nat):Int)).toNat (eSl x0::(ofI (S.drop (j+1)) i4).map eSl)))=DV.osl 5 ((ofI (S.drop (j+1)) i4).map eSl):=by
           rw [Int.toNat_natCast,List.take_length]; rfl
          cases hh
          ·refine ⟨fun _=>hin,.osl 5 (eSl x0::(ofI (S.drop (j+1)) i4).map eSl),fun _=>hse,?_⟩
           refine .inr (.inr ⟨.osl 5 (eSl x0::(ofI (S.drop (j+1)) i4).map eSl),fun _=>hse,⟨by simp,by simp; omega,by simp⟩,?_⟩)
           refine ⟨.osl 5 (eSl x0::(ofI (S.drop (j+1)) i4).map eSl),hse,?_⟩
           refine ⟨fun _=>by rw [List.length_set]; exact hin,[.osl 5 ((ofI (S.drop (j+1)) i4).map eSl)],⟨hdr1,tv⟩,.any,List.getElem?_set_self (by rw [List.length_map,slAt_len]; omega),?_⟩
           refine ⟨by kernel_rfl,fun _=>⟨by simp only; omega,by simp only; omega⟩,⟨j+1,true⟩,⟨⟨rfl,rfl,rf,rf,rf,rf,rf,rfl,rf,le_int (by simp),tv⟩,⟨⟨rf,rf,rf,rf,rf,rf,rfl,rfl,rfl,rfl,rfl,tv⟩,⟨rfl,rfl⟩,⟨rfl,rfl⟩,⟨rfl,rfl⟩,⟨rfl,b4⟩,⟨rfl,rfl⟩,⟨rf,rf,rf,rf,rf,rf,rf,tv⟩,tv⟩,rfl,rfl⟩,⟨by simp only; omega,by simp⟩,by simp only; omega⟩
          ·refine ⟨fun _=>hin,.osl 5 (eSl x0::(ofI (S.drop (j+1)) i4).map eSl),fun _=>hse,?_⟩
           refine .inr (.inr ⟨.osl 5 (eSl x0::(ofI (S.drop (j+1)) i4).map eSl),fun _=>hse,⟨by simp,by simp; omega,by simp⟩,?_⟩)
           refine ⟨.osl 5 (eSl x0::(ofI (S.drop (j+1)) i4).map eSl),hse,?_⟩
           refine ⟨fun _=>by rw [List.length_set]; exact hin,[.osl 5 ((ofI (S.drop (j+1)) i4).map eSl)],⟨hdr1,tv⟩,.any,List.getElem?_set_self (by rw [List.length_map,slAt_len]; omega),?_⟩
           refine ⟨by kernel_rfl,fun _=>⟨by simp only; omega,by simp only; omega⟩,⟨j+1,true⟩,⟨⟨rfl,rfl,rf,rf,rf,rf,rf,rfl,rf,le_int (by simp),tv⟩,⟨⟨rf,rf,rf,rf,rf,rf,rfl,rfl,rfl,rfl,rfl,tv⟩,⟨rfl,rfl⟩,⟨rfl,rfl⟩,⟨rfl,rfl⟩,⟨rfl,b4⟩,⟨rfl,rfl⟩,⟨rf,rf,rf,rf,rf,rf,rf,tv⟩,tv⟩,rfl,rfl⟩,⟨by simp only; omega,by simp⟩,by simp only; omega⟩
         ·have hge:j=lv:=by have:=of_decide_eq_false hge; simp only [Int.ofNat_lt] at this; omega
          subst hge
          have hdl:DV.osl 1 (List.drop ((j:Int)).toNat (List.take (((s1.sold.map I).length:Nat):Int).toNat (s1.sold.map I)))=vK.Ints2 (s1.sold.drop j):=by
           rw [Int.toNat_natCast,Int.toNat_natCast,List.take_length,←List.map_drop]; rfl
          refine .inl ⟨⟨by simp,by simp only [Option.getD_some,Option.getD_none,List.length_map,k1,k3]; omega,by simp⟩,fun _=>⟨by simp only; omega,by simp only; omega⟩,?_⟩
          refine ⟨(fun h9=>by cases h9),fun _=>?_⟩
          have k7:slAt s1 S j=slAt s S j:=by unfold slAt; rw [k2]
          cases hh
          ·have hKeq:feedRel s S st (.ok A) [.dv (I 0)] (vKg false false true { leftM s1 S j with last:=st.tick }):=by
            refine ⟨done,k6,rfl,?_⟩
            rw [hs1,←k5,hsa,hlvn,←q2]
            have h0:feedF s S st s1={ leftM s1 S j with last:=st.tick }:=by unfold feedF; rw [hsa,hlvn]; rfl
            rw [h0]; simp
           exact ⟨_,_,hKeq,by kernel_rfl,⟨rf,tv⟩,⟨rf,rf,rf,rf,rf,rf,rfl,rfl,rfl,rfl,rfl,tv⟩,⟨rfl,rfl⟩,⟨rfl,rfl⟩,⟨rfl,rfl⟩,⟨rfl,by rw [←k7]; rfl⟩,⟨rfl,hdl⟩,tv⟩
          ·have hKeq:feedRel s S st (.ok A) [.dv (I 0)] (vKg false true true { leftM s1 S j with last:=st.tick }):=by
            refine ⟨done,k6,rfl,?_⟩
            rw [hs1,←k5,hsa,hlvn,←q2]
            have h0:feedF s S st s1={ leftM s1 S j with last:=st.tick }:=by unfold feedF; rw [hsa,hlvn]; rfl
            rw [h0]; simp
           exact ⟨_,_,hKeq,by kernel_rfl,⟨rf,tv⟩,⟨rf,rf,rf,rf,rf,rf,rfl,rfl,rfl,rfl,rfl,tv⟩,⟨rfl,rfl⟩,⟨rfl,rfl⟩,⟨rfl,rfl⟩,⟨rfl,by rw [←k7]; rfl⟩,⟨rfl,hdl⟩,tv⟩
       ·refine .inr (.inl ⟨fun _=>⟨by simp,by simp,by simp only [k1,List.length_map,Option.getD_some]; omega⟩,?_⟩)
        refine ⟨Lp3,lp3 s s1 S st it n c false lv true,fun z=>z.j≤lv∧z.h=decide (0<z.j),fun z=>lv - z.j,⟨0,false⟩,fun z=>by obtain ⟨z1,z2⟩:=z; cases z2 <;> rfl,?_,?_,?_⟩
        ·exact ⟨⟨rfl,rfl,rf,rf,rf,rf,rf,rfl,rf,rf,tv⟩,⟨⟨rf,rf,rf,rf,rf,rf,rfl,rfl,rfl,rfl,rfl,tv⟩,⟨rfl,rfl⟩,⟨rfl,rfl⟩,⟨rfl,rfl⟩,⟨rfl,by rw [sl0]⟩,⟨rfl,rfl⟩,⟨rf,rf,rf,rf,rf,rf,rf,tv⟩,tv⟩,rfl,rfl⟩
        ·exact ⟨Nat.zero_le _,rfl⟩
        ·rintro ⟨j,hh⟩ ⟨q1,q2⟩
         simp only at q1 q2
         refine ⟨fun hlt=>?_,fun hge=>?_⟩
         ·have hlt:j<lv:=by have:=of_decide_eq_true hlt; simp only [Int.ofNat_lt] at this; exact this
          obtain ⟨⟨i4,x0⟩,hx0⟩:∃q,S[j]?=some q:=⟨_,List.getElem?_eq_getElem (by omega)⟩
          have hi4:i4<4:=h.it _ (List.mem_of_getElem? hx0)
          have hso:(s1.sold.map I)[0+((j:Int)).toNat]?=some (I (i4:Int)):=by rw [k1,h.sold,List.map_map,List.getElem?_map,Nat.zero_add,Int.toNat_natCast,hx0]; rfl
          obtain ⟨e1,e2⟩:=slAt_step h hx0
          have hse:((slAt s S j).map eSs)[((i4:Int)).toNat]?=some (.osl 5 (eSl x0::(ofI (S.drop (j+1)) i4).map eSl)):=by rw [List.getElem?_map,Int.toNat_natCast,e1]; rfl
          refine ⟨fun _=>⟨by simp only; omega,by simp only; omega⟩,I (i4:Int),fun _=>hso,?_⟩
          have hin:(0:Int)≤(i4:Int)∧(i4:Int)<(((slAt s S j).map eSs).length:Int):=⟨by omega,by rw [List.length_map,slAt_len]; omega⟩
          have b4:DV.osl 1 ((((slAt s S j).map eSs).set ((i4:Int)).toNat .any).set ((i4:Int)).toNat (.osl 5 ((ofI (S.drop (j+1)) i4).map eSl)))=.osl 1 ((slAt s S (j+1)).map eSs):=by
           rw [List.set_set,Int.toNat_natCast,e2,List.map_set]; rfl
          have hdr1:DV.osl 5 (List.drop 1 (List.take ((((eSl x0::(ofI (S.drop (j+1)) i4).map eSl).length:Nat):Int)).toNat (eSl x0::(ofI (S.drop (j+1)) i4).map eSl)))=DV.osl 5 ((ofI (S.drop (j+1)) i4).map eSl):=by
           rw [Int.toNat_natCast,List.take_length]; rfl
          cases hh
          ·refine ⟨fun _=>hin,.osl 5 (eSl x0::(ofI (S.drop (j+1)) i4).map eSl),fun _=>hse,?_⟩
           refine .inr (.inr ⟨.osl 5 (eSl x0::(ofI (S.drop (j+1)) i4).map eSl),fun _=>hse,⟨by simp,by simp; omega,by simp⟩,?_⟩)
           refine ⟨.osl 5 (eSl x0::(ofI (S.drop (j+1)) i4).map eSl),hse,?_⟩
           refine ⟨fun _=>by rw [List.length_set]; exact hin,[.osl 5 ((ofI (S.drop (j+1)) i4).map eSl)],⟨hdr1,tv⟩,.any,List.getElem?_set_self (by rw [List.length_map,slAt_len]; omega),?_⟩
           refine ⟨by kernel_rfl,fun _=>⟨by simp only; omega,by simp only; omega⟩,⟨j+1,true⟩,⟨⟨rfl,rfl,rf,rf,rf,rf,rf,rfl,rf,le_int (by simp),tv⟩,⟨⟨rf,rf,rf,rf,rf,rf,rfl,rfl,rfl,rfl,rfl,tv⟩,⟨rfl,rfl⟩,⟨rfl,rfl⟩,⟨rfl,rfl⟩,⟨rfl,b4⟩,⟨rfl,rfl⟩,⟨rf,rf,rf,rf,rf,rf,rf,tv⟩,tv⟩,rfl,rfl⟩,⟨by simp only; omega,by simp⟩,by simp only; omega⟩
          ·refine ⟨fun _=>hin,.osl 5 (eSl x0::(ofI (S.drop (j+1)) i4).map eSl),fun _=>hse,?_⟩
           refine .inr (.inr ⟨.osl 5 (eSl x0::(ofI (S.drop (j+1)) i4).map eSl),fun _=>hse,⟨by simp,by simp; omega,by simp⟩,?_⟩)
           refine ⟨.osl 5 (eSl x0::(ofI (S.drop (j+1)) i4).map eSl),hse,?_⟩
           refine ⟨fun _=>by rw [List.length_set]; exact hin,[.osl 5 ((ofI (S.drop (j+1)) i4).map eSl)],⟨hdr1,tv⟩,.any,List.getElem?_set_self (by rw [List.length_map,slAt_len]; omega),?_⟩
           refine ⟨by kernel_rfl,fun _=>⟨by simp only; omega,by simp only; omega⟩,⟨j+1,true⟩,⟨⟨rfl,rfl,rf,rf,rf,rf,rf,rfl,rf,le_int (by simp),tv⟩,⟨⟨rf,rf,rf,rf,rf,rf,rfl,rfl,rfl,rfl,rfl,tv⟩,⟨rfl,rfl⟩,⟨rfl,rfl⟩,⟨rfl,rfl⟩,⟨rfl,b4⟩,⟨rfl,rfl⟩,⟨rf,rf,rf,rf,rf,rf,rf,tv⟩,tv⟩,rfl,rfl⟩,⟨by simp only; omega,by simp⟩,by simp only; omega⟩
         ·have hge:j=lv:=by have:=of_decide_eq_false hge; simp only [Int.ofNat_lt] at this; omega
          subst hge
          have hdl:DV.osl 1 (List.drop ((j:Int)).toNat (List.take (((s1.sold.map I).length:Nat):Int).toNat (s1.sold.map I)))=vK.Ints2 (s1.sold.drop j):=by
           rw [Int.toNat_natCast,Int.toNat_natCast,List.take_length,←List.map_drop]; rfl
          refine .inl ⟨⟨by simp,by simp only [Option.getD_some,Option.getD_none,List.length_map,k1,k3]; omega,by simp⟩,fun _=>⟨by simp only; omega,by simp only; omega⟩,?_⟩
          refine ⟨(fun h9=>by cases h9),fun _=>?_⟩
          have k7:slAt s1 S j=slAt s S j:=by unfold slAt; rw [k2]
          cases hh
          ·have hKeq:feedRel s S st (.ok A) [.dv (I 0)] (vKg true false true { leftM s1 S j with last:=st.tick }):=by
            refine ⟨done,k6,rfl,?_⟩
            rw [hs1,←k5,hsa,hlvn,←q2]
            have h0:feedF s S st s1={ leftM s1 S j with last:=st.tick }:=by unfold feedF; rw [hsa,hlvn]; rfl
            rw [h0]; simp
           exact ⟨_,_,hKeq,by kernel_rfl,⟨rf,tv⟩,⟨rf,rf,rf,rf,rf,rf,rfl,rfl,rfl,rfl,rfl,tv⟩,⟨rfl,rfl⟩,⟨rfl,rfl⟩,⟨rfl,rfl⟩,⟨rfl,by rw [←k7]; rfl⟩,⟨rfl,hdl⟩,tv⟩
          ·have hKeq:feedRel s S st (.ok A) [.dv (I 0)] (vKg true true true { leftM s1 S j with last:=st.tick }):=by
            refine ⟨done,k6,rfl,?_⟩
            rw [hs1,←k5,hsa,hlvn,←q2]
            have h0:feedF s S st s1={ leftM s1 S j with last:=st.tick }:=by unfold feedF; rw [hsa,hlvn]; rfl
            rw [h0]; simp
           exact ⟨_,_,hKeq,by kernel_rfl,⟨rf,tv⟩,⟨rf,rf,rf,rf,rf,rf,rfl,rfl,rfl,rfl,rfl,tv⟩,⟨rfl,rfl⟩,⟨rfl,rfl⟩,⟨rfl,rfl⟩,⟨rfl,by rw [←k7]; rfl⟩,⟨rfl,hdl⟩,tv⟩
      ·simp only at hcc
       rw [List.getElem?_map] at hcc
       obtain ⟨⟨k,x⟩,hk,rfl⟩:∃p,left[pos]?=some p∧cc=eHe p:=by
        cases hq:left[pos]? with
        | none=>rw [hq] at hcc; cases hcc
        | some p=>rw [hq] at hcc; exact ⟨p,rfl,by simpa using hcc.symm⟩
       refine ⟨closed_int x,?_⟩
       have hpe:(done++(k,x)::left.eraseIdx pos).Perm A:=((erase_perm hk).append_left done).symm.trans g1
       obtain ⟨ii,hok,htm⟩:=hset A hA done k x _ hpe
       have hspec:=set_spec (setsM s done) k ii x hok
       have hii:setM (setsM s done) k ii x=setsM s (done++[(k,x)]):=by
        unfold setsM; rw [List.foldl_append]; show setM _ k ii x=setM _ k k.2.toNat x
        rw [show k.2.toNat=ii by have:=hok.it; omega]
       rw [hii,htm] at hspec
       have hf2:touchA s (done++[(k,x)])=(f || touchM s k x):=by unfold touchA; rw [List.any_append,g2]; simp [touchA]
       cases f
       ·cases htt:touchM s k x
        ·rw [htt] at hspec hf2
         refine .inr ⟨[0,1,2,3,4,5],[.ptr 0 0,.agg [.dv (I k.1),.dv (I k.2)],.dv (I x)],vK false (setsM s done),0,_,_,hspec,by kernel_rfl,by kernel_rfl,⟨rfl,⟨rf,rf,tv⟩,rf,tv⟩,⟨⟨rf,rf,rf,rf,rf,rf,rfl,rfl,rfl,rfl,rfl,tv⟩,⟨rfl,rfl⟩,⟨rfl,rfl⟩,⟨rfl,rfl⟩,⟨rfl,rfl⟩,⟨rfl,rfl⟩,tv⟩,?_⟩
         exact ⟨⟨left.eraseIdx pos,done++[(k,x)],false⟩,⟨⟨rfl,rfl,rf,rf,rf,rf,rf,rfl,tv⟩,⟨⟨rf,rf,rf,rf,rf,rf,rfl,rfl,rfl,rfl,rfl,tv⟩,⟨rfl,rfl⟩,⟨rfl,rfl⟩,⟨rfl,rfl⟩,⟨rfl,rfl⟩,⟨rfl,rfl⟩,⟨rf,rf,rf,rf,rf,rf,rf,tv⟩,tv,⟨rfl,rfl,rfl,erase_map _ _,.inl rfl,tv⟩,tv⟩,rfl,rfl⟩,⟨by simp only [List.append_assoc]; exact hpe,hf2.symm⟩,by simp only; have:=erase_len hk; omega⟩
        ·rw [htt] at hspec hf2
         refine .inr ⟨[0,1,2,3,4,5],[.ptr 0 0,.agg [.dv (I k.1),.dv (I k.2)],.dv (I x)],vK false (setsM s done),0,_,_,hspec,by kernel_rfl,by kernel_rfl,⟨rfl,⟨rf,rf,tv⟩,rf,tv⟩,⟨⟨rf,rf,rf,rf,rf,rf,rfl,rfl,rfl,rfl,rfl,tv⟩,⟨rfl,rfl⟩,⟨rfl,rfl⟩,⟨rfl,rfl⟩,⟨rfl,rfl⟩,⟨rfl,rfl⟩,tv⟩,?_⟩
         exact ⟨⟨left.eraseIdx pos,done++[(k,x)],true⟩,⟨⟨rfl,rfl,rf,rf,rf,rf,rf,rfl,tv⟩,⟨⟨rf,rf,rf,rf,rf,rf,rfl,rfl,rfl,rfl,rfl,tv⟩,⟨rfl,rfl⟩,⟨rfl,rfl⟩,⟨rfl,rfl⟩,⟨rfl,rfl⟩,⟨rfl,rfl⟩,⟨rf,rf,rf,rf,rf,rf,rf,tv⟩,tv,⟨rfl,rfl,rfl,erase_map _ _,.inl rfl,tv⟩,tv⟩,rfl,rfl⟩,⟨by simp only [List.append_assoc]; exact hpe,hf2.symm⟩,by simp only; have:=erase_len hk; omega⟩
       ·cases htt:touchM s k x
        ·rw [htt] at hspec hf2
         refine .inr ⟨[0,1,2,3,4,5],[.ptr 0 0,.agg [.dv (I k.1),.dv (I k.2)],.dv (I x)],vK false (setsM s done),0,_,_,hspec,by kernel_rfl,by kernel_rfl,⟨rfl,⟨rf,rf,tv⟩,rf,tv⟩,⟨⟨rf,rf,rf,rf,rf,rf,rfl,rfl,rfl,rfl,rfl,tv⟩,⟨rfl,rfl⟩,⟨rfl,rfl⟩,⟨rfl,rfl⟩,⟨rfl,rfl⟩,⟨rfl,rfl⟩,tv⟩,?_⟩
         exact ⟨⟨left.eraseIdx pos,done++[(k,x)],true⟩,⟨⟨rfl,rfl,rf,rf,rf,rf,rf,rfl,tv⟩,⟨⟨rf,rf,rf,rf,rf,rf,rfl,rfl,rfl,rfl,rfl,tv⟩,⟨rfl,rfl⟩,⟨rfl,rfl⟩,⟨rfl,rfl⟩,⟨rfl,rfl⟩,⟨rfl,rfl⟩,⟨rf,rf,rf,rf,rf,rf,rf,tv⟩,tv,⟨rfl,rfl,rfl,erase_map _ _,.inl rfl,tv⟩,tv⟩,rfl,rfl⟩,⟨by simp only [List.append_assoc]; exact hpe,hf2.symm⟩,by simp only; have:=erase_len hk; omega⟩
        ·rw [htt] at hspec hf2
         refine .inr ⟨[0,1,2,3,4,5],[.ptr 0 0,.agg [.dv (I k.1),.dv (I k.2)],.dv (I x)],vK false (setsM s done),0,_,_,hspec,by kernel_rfl,by kernel_rfl,⟨rfl,⟨rf,rf,tv⟩,rf,tv⟩,⟨⟨rf,rf,rf,rf,rf,rf,rfl,rfl,rfl,rfl,rfl,tv⟩,⟨rfl,rfl⟩,⟨rfl,rfl⟩,⟨rfl,rfl⟩,⟨rfl,rfl⟩,⟨rfl,rfl⟩,tv⟩,?_⟩
         exact ⟨⟨left.eraseIdx pos,done++[(k,x)],true⟩,⟨⟨rfl,rfl,rf,rf,rf,rf,rf,rfl,tv⟩,⟨⟨rf,rf,rf,rf,rf,rf,rfl,rfl,rfl,rfl,rfl,tv⟩,⟨rfl,rfl⟩,⟨rfl,rfl⟩,⟨rfl,rfl⟩,⟨rfl,rfl⟩,⟨rfl,rfl⟩,⟨rf,rf,rf,rf,rf,rf,rf,tv⟩,tv,⟨rfl,rfl,rfl,erase_map _ _,.inl rfl,tv⟩,tv⟩,rfl,rfl⟩,⟨by simp only [List.append_assoc]; exact hpe,hf2.symm⟩,by simp only; have:=erase_len hk; omega⟩
    ·simp only at hcc
     rw [List.getElem?_map] at hcc
     obtain ⟨⟨k,x⟩,hk,rfl⟩:∃p,left[pos]?=some p∧cc=eHe p:=by
      cases hq:left[pos]? with
      | none=>rw [hq] at hcc; cases hcc
      | some p=>rw [hq] at hcc; exact ⟨p,rfl,by simpa using hcc.symm⟩
     refine ⟨closed_int x,?_⟩
     refine ⟨keyT_ky,eKy k,rfl,rfl,I (hv s.H k),(hget s.H k).isSome,fun _=>hg_ky s.H k,hz_ky s.H k,rfl,?_⟩
     refine ⟨by kernel_rfl,?_⟩
     repeat first | refine ⟨id,?_⟩ | refine ⟨fun _ h=>bw_f h,?_⟩ | refine ⟨fun _ h=>bw_t h,?_⟩ | refine ⟨fun h=>⟨h,fun h2=>bw_and h h2⟩,?_⟩ | refine ⟨fun h=>⟨h,fun h2=>bw_andf h h2⟩,?_⟩
     have hds:=dlts_erase s.H hk
     have hle:=erase_len hk
     refine ⟨fun hq=>?_,fun hq=>?_⟩
     ·have hd:dlt s.H (k,x)=1:=by
       show (bif (bif hv s.H k == 0 then x != 0 else false) then (1:Int) else _)=1
       rw [show (bif hv s.H k == 0 then x != 0 else false)=true from hq]; rfl
      have h0:hv s.H k=0:=by
       cases hz:(hv s.H k == 0) with
       | true=>simpa using hz
       | false=>rw [hz] at hq; cases hq
      refine ⟨fun _=>⟨by simp only; omega,by simp only; omega⟩,?_⟩
      repeat first | refine ⟨id,?_⟩ | refine ⟨fun _ h=>bw_f h,?_⟩ | refine ⟨fun _ h=>bw_t h,?_⟩ | refine ⟨fun h=>⟨h,fun h2=>bw_and h h2⟩,?_⟩ | refine ⟨fun h=>⟨h,fun h2=>bw_andf h h2⟩,?_⟩
      refine ⟨fun hr=>absurd hr (by rw [h0]; simp),fun _=>?_⟩
      exact ⟨⟨left.eraseIdx pos,sz+1⟩,⟨⟨rfl,rfl,rfl,rf,rf,rf,rf,rf,rf,rfl,tv⟩,⟨⟨rf,rf,rf,rf,rf,rf,rfl,rfl,rfl,rfl,rfl,tv⟩,⟨rfl,rfl⟩,⟨rfl,rfl⟩,⟨rfl,rfl⟩,⟨rfl,rfl⟩,⟨rfl,rfl⟩,⟨rf,rf,rf,rf,rf,rf,rf,tv⟩,tv,⟨rfl,rfl,rfl,erase_map _ _,.inl rfl,tv⟩,tv⟩,rfl,rfl⟩,⟨by simp only; omega,by simp only; omega,by simp only; omega,by simp only; omega⟩,by simp only; omega⟩
     ·repeat first | refine ⟨id,?_⟩ | refine ⟨fun _ h=>bw_f h,?_⟩ | refine ⟨fun _ h=>bw_t h,?_⟩ | refine ⟨fun h=>⟨h,fun h2=>bw_and h h2⟩,?_⟩ | refine ⟨fun h=>⟨h,fun h2=>bw_andf h h2⟩,?_⟩
      refine ⟨fun hr=>?_,fun hr=>?_⟩
      ·have hd:dlt s.H (k,x)=-1:=by
        show (bif (bif hv s.H k == 0 then x != 0 else false) then (1:Int) else bif (bif hv s.H k != 0 then x == 0 else false) then -1 else 0)=-1
        rw [show (bif hv s.H k == 0 then x != 0 else false)=false from hq,show (bif hv s.H k != 0 then x == 0 else false)=true from hr]; rfl
       refine ⟨fun _=>⟨by simp only; omega,by simp only; omega⟩,?_⟩
       exact ⟨⟨left.eraseIdx pos,sz - 1⟩,⟨⟨rfl,rfl,rfl,rf,rf,rf,rf,rf,rf,rfl,tv⟩,⟨⟨rf,rf,rf,rf,rf,rf,rfl,rfl,rfl,rfl,rfl,tv⟩,⟨rfl,rfl⟩,⟨rfl,rfl⟩,⟨rfl,rfl⟩,⟨rfl,rfl⟩,⟨rfl,rfl⟩,⟨rf,rf,rf,rf,rf,rf,rf,tv⟩,tv,⟨rfl,rfl,rfl,erase_map _ _,.inl rfl,tv⟩,tv⟩,rfl,rfl⟩,⟨by simp only; omega,by simp only; omega,by simp only; omega,by simp only; omega⟩,by simp only; omega⟩
      ·have hd:dlt s.H (k,x)=0:=by
        show (bif (bif hv s.H k == 0 then x != 0 else false) then (1:Int) else bif (bif hv s.H k != 0 then x == 0 else false) then -1 else 0)=0
        rw [show (bif hv s.H k == 0 then x != 0 else false)=false from hq,show (bif hv s.H k != 0 then x == 0 else false)=false from hr]; rfl
       exact ⟨⟨left.eraseIdx pos,sz⟩,⟨⟨rfl,rfl,rfl,rf,rf,rf,rf,rf,rf,rfl,tv⟩,⟨⟨rf,rf,rf,rf,rf,rf,rfl,rfl,rfl,rfl,rfl,tv⟩,⟨rfl,rfl⟩,⟨rfl,rfl⟩,⟨rfl,rfl⟩,⟨rfl,rfl⟩,⟨rfl,rfl⟩,⟨rf,rf,rf,rf,rf,rf,rf,tv⟩,tv,⟨rfl,rfl,rfl,erase_map _ _,.inl rfl,tv⟩,tv⟩,rfl,rfl⟩,⟨by simp only; omega,by simp only; omega,by simp only; omega,by simp only; omega⟩,by simp only; omega⟩
  ·refine ⟨fun _=>⟨fun _=>⟨by omega,by omega⟩,?_⟩,fun hb=>by cases hb⟩
   obtain ⟨z0,hz0⟩:∃z0:Int,(s.H.length:Int)+(s.sold.length:Int) - (lv:Int)+1=z0:=⟨_,rfl⟩
   have hzF:szF s S st=z0:=by unfold szF; rw [hsa,hlvn]; exact hz0
   have hzb:-1000≤z0∧z0≤1000000:=by omega
   rw [hzF] at hfc
   refine ⟨Lp1,lp1 s st A it n c true lv,fun z=>z.sz+dlts s.H z.left=z0+dlts s.H A∧z0 - ((A.length:Int) - (z.left.length:Int))≤z.sz∧z.sz≤z0+((A.length:Int) - (z.left.length:Int))∧z.left.length≤A.length,fun z=>z.left.length,⟨A,z0⟩,fun _=>rfl,?_,?_,?_⟩
   ·exact ⟨⟨rfl,rfl,rfl,rf,rf,rf,rf,rf,le_int hz0,rfl,tv⟩,⟨⟨rf,rf,rf,rf,rf,rf,rfl,rfl,rfl,rfl,rfl,tv⟩,⟨rfl,rfl⟩,⟨rfl,rfl⟩,⟨rfl,rfl⟩,⟨rfl,rfl⟩,⟨rfl,rfl⟩,⟨rf,rf,rf,rf,rf,rf,rf,tv⟩,tv,⟨rfl,rfl,rfl,rfl,.inl rfl,tv⟩,tv⟩,rfl,rfl⟩
   ·exact ⟨rfl,by simp only; omega,by simp only; omega,Nat.le_refl _⟩
   ·rintro ⟨left,sz⟩ ⟨h1,h2,h3,h4⟩
    simp only at h1 h2 h3 h4
    refine ⟨tv,fun h5=>⟨(fun h6=>by cases h6),fun _=>?_⟩,fun pos cc hcc=>⟨fun _=>?_,fun h6=>by cases h6⟩⟩
    ·have hz:left=[]:=by simpa using h5
     subst hz
     have hszA:sz=z0+dlts s.H A:=by have:dlts s.H []=0:=rfl; omega
     refine ⟨fun hq=>?_,fun hq=>?_⟩
     ·have hq:s.budget<sz:=of_decide_eq_true hq
      rw [if_pos (by omega)] at hfc
      rw [hfc]
      exact ⟨_,_,⟨rfl,rfl⟩,by kernel_rfl,⟨rf,tv⟩,⟨rf,rf,rf,rf,rf,rf,rfl,rfl,rfl,rfl,rfl,tv⟩,⟨rfl,rfl⟩,⟨rfl,rfl⟩,⟨rfl,rfl⟩,⟨rfl,rfl⟩,⟨rfl,rfl⟩,tv⟩
     have hq:¬ s.budget<sz:=of_decide_eq_false hq
     rw [if_neg (by omega)] at hfc
     rw [hfc]
     refine ⟨Lp2,lp2 s st A it n c true lv,fun z=>(z.done++z.left).Perm A∧z.f=touchA s z.done,fun z=>z.left.length,⟨A,[],false⟩,fun z=>by obtain ⟨z1,z2,z3⟩:=z; cases z3 <;> rfl,?_,?_,?_⟩
     ·exact ⟨⟨rfl,rfl,rf,rf,rf,rf,rf,rfl,tv⟩,⟨⟨rf,rf,rf,rf,rf,rf,rfl,rfl,rfl,rfl,rfl,tv⟩,⟨rfl,rfl⟩,⟨rfl,rfl⟩,⟨rfl,rfl⟩,⟨rfl,rfl⟩,⟨rfl,rfl⟩,⟨rf,rf,rf,rf,rf,rf,rf,tv⟩,tv,⟨rfl,rfl,rfl,rfl,.inl rfl,tv⟩,tv⟩,rfl,rfl⟩
     ·exact ⟨List.Perm.refl _,rfl⟩
     ·rintro ⟨left,done,f⟩ ⟨g1,g2⟩
      simp only at g1 g2
      refine ⟨tv,fun h5=>⟨(fun h6=>by cases h6),fun _=>?_⟩,fun pos cc hcc=>⟨fun _=>?_,fun h6=>by cases h6⟩⟩
      ·have hz:left=[]:=by simpa using h5
       subst hz
       have k1:(setsM s done).sold=s.sold:=setsM_sold s done
       have k2:(setsM s done).sl=s.sl:=setsM_sl s done
       have k3:s.sold.length=S.length:=by rw [h.sold,List.length_map]
       have k4:lv≤S.length:=by rw [←hlvn]; unfold leavN; exact (List.takeWhile_sublist _).length_le
       have k5:f=touchA s A:=by rw [g2]; unfold touchA; exact any_perm (by simpa using g1) _
       have k6:done.Perm A:=by simpa using g1
       have k8:=setsM_work s done
       have k9:done.length≤100000:=by rw [k6.length_eq]; exact hAl
       generalize hs1:setsM s done=s1 at *
       have sl0:slAt s S 0=s1.sl:=by rw [k2]; exact slAt_zero h
       cases f
       ·refine .inr (.inl ⟨fun _=>⟨by simp,by simp,by simp only [k1,List.length_map,Option.getD_some]; omega⟩,?_⟩)
        refine ⟨Lp3,lp3 s s1 S st it n c true lv false,fun z=>z.j≤lv∧z.h=decide (0<z.j),fun z=>lv - z.j,⟨0,false⟩,fun z=>by obtain ⟨z1,z2⟩:=z; cases z2 <;> rfl,?_,?_,?_⟩
        ·exact ⟨⟨rfl,rfl,rf,rf,rf,rf,rf,rfl,rf,rf,tv⟩,⟨⟨rf,rf,rf,rf,rf,rf,rfl,rfl,rfl,rfl,rfl,tv⟩,⟨rfl,rfl⟩,⟨rfl,rfl⟩,⟨rfl,rfl⟩,⟨rfl,by rw [sl0]⟩,⟨rfl,rfl⟩,⟨rf,rf,rf,rf,rf,rf,rf,tv⟩,tv⟩,rfl,rfl⟩
        ·exact ⟨Nat.zero_le _,rfl⟩
        ·rintro ⟨j,hh⟩ ⟨q1,q2⟩
         simp only at q1 q2
         refine ⟨fun hlt=>?_,fun hge=>?_⟩
         ·have hlt:j<lv:=by have:=of_decide_eq_true hlt; simp only [Int.ofNat_lt] at this; exact this
          obtain ⟨⟨i4,x0⟩,hx0⟩:∃q,S[j]?=some q:=⟨_,List.getElem?_eq_getElem (by omega)⟩
          have hi4:i4<4:=h.it _ (List.mem_of_getElem? hx0)
          have hso:(s1.sold.map I)[0+((j:Int)).toNat]?=some (I (i4:Int)):=by rw [k1,h.sold,List.map_map,List.getElem?_map,Nat.zero_add,Int.toNat_natCast,hx0]; rfl
          obtain ⟨e1,e2⟩:=slAt_step h hx0
          have hse:((slAt s S j).map eSs)[((i4:Int)).toNat]?=some (.osl 5 (eSl x0::(ofI (S.drop (j+1)) i4).map eSl)):=by rw [List.getElem?_map,Int.toNat_natCast,e1]; rfl
          refine ⟨fun _=>⟨by simp only; omega,by simp only; omega⟩,I (i4:Int),fun _=>hso,?_⟩
          have hin:(0:Int)≤(i4:Int)∧(i4:Int)<(((slAt s S j).map eSs).length:Int):=⟨by omega,by rw [List.length_map,slAt_len]; omega⟩
          have b4:DV.osl 1 ((((slAt s S j).map eSs).set ((i4:Int)).toNat .any).set ((i4:Int)).toNat (.osl 5 ((ofI (S.drop (j+1)) i4).map eSl)))=.osl 1 ((slAt s S (j+1)).map eSs):=by
           rw [List.set_set,Int.toNat_natCast,e2,List.map_set]; rfl
          have hdr1:DV.osl 5 (List.drop 1 (List.take ((((eSl x0::(ofI (S.drop (j+1)) i4).map eSl).length:Nat):Int)).toNat (eSl x0::(ofI (S.drop (j+1)) i4).map eSl)))=DV.osl 5 ((ofI (S.drop (j+1)) i4).map eSl):=by
           rw [Int.toNat_natCast,List.take_length]; rfl
          cases hh
          ·refine ⟨fun _=>hin,.osl 5 (eSl x0::(ofI (S.drop (j+1)) i4).map eSl),fun _=>hse,?_⟩
           refine .inr (.inr ⟨.osl 5 (eSl x0::(ofI (S.drop (j+1)) i4).map eSl),fun _=>hse,⟨by simp,by simp; omega,by simp⟩,?_⟩)
           refine ⟨.osl 5 (eSl x0::(ofI (S.drop (j+1)) i4).map eSl),hse,?_⟩
           refine ⟨fun _=>by rw [List.length_set]; exact hin,[.osl 5 ((ofI (S.drop (j+1)) i4).map eSl)],⟨hdr1,tv⟩,.any,List.getElem?_set_self (by rw [List.length_map,slAt_len]; omega),?_⟩
           refine ⟨by kernel_rfl,fun _=>⟨by simp only; omega,by simp only; omega⟩,⟨j+1,true⟩,⟨⟨rfl,rfl,rf,rf,rf,rf,rf,rfl,rf,le_int (by simp),tv⟩,⟨⟨rf,rf,rf,rf,rf,rf,rfl,rfl,rfl,rfl,rfl,tv⟩,⟨rfl,rfl⟩,⟨rfl,rfl⟩,⟨rfl,rfl⟩,⟨rfl,b4⟩,⟨rfl,rfl⟩,⟨rf,rf,rf,rf,rf,rf,rf,tv⟩,tv⟩,rfl,rfl⟩,⟨by simp only; omega,by simp⟩,by simp only; omega⟩
          ·refine ⟨fun _=>hin,.osl 5 (eSl x0::(ofI (S.drop (j+1)) i4).map eSl),fun _=>hse,?_⟩
           refine .inr (.inr ⟨.osl 5 (eSl x0::(ofI (S.drop (j+1)) i4).map eSl),fun _=>hse,⟨by simp,by simp; omega,by simp⟩,?_⟩)
           refine ⟨.osl 5 (eSl x0::(ofI (S.drop (j+1)) i4).map eSl),hse,?_⟩
           refine ⟨fun _=>by rw [List.length_set]; exact hin,[.osl 5 ((ofI (S.drop (j+1)) i4).map eSl)],⟨hdr1,tv⟩,.any,List.getElem?_set_self (by rw [List.length_map,slAt_len]; omega),?_⟩
           refine ⟨by kernel_rfl,fun _=>⟨by simp only; omega,by simp only; omega⟩,⟨j+1,true⟩,⟨⟨rfl,rfl,rf,rf,rf,rf,rf,rfl,rf,le_int (by simp),tv⟩,⟨⟨rf,rf,rf,rf,rf,rf,rfl,rfl,rfl,rfl,rfl,tv⟩,⟨rfl,rfl⟩,⟨rfl,rfl⟩,⟨rfl,rfl⟩,⟨rfl,b4⟩,⟨rfl,rfl⟩,⟨rf,rf,rf,rf,rf,rf,rf,tv⟩,tv⟩,rfl,rfl⟩,⟨by simp only; omega,by simp⟩,by simp only; omega⟩
         ·have hge:j=lv:=by have:=of_decide_eq_false hge; simp only [Int.ofNat_lt] at this; omega
          subst hge
          have hdl:DV.osl 1 (List.drop ((j:Int)).toNat (List.take (((s1.sold.map I).length:Nat):Int).toNat (s1.sold.map I)))=vK.Ints2 (s1.sold.drop j):=by
           rw [Int.toNat_natCast,Int.toNat_natCast,List.take_length,←List.map_drop]; rfl
          refine .inl ⟨⟨by simp,by simp only [Option.getD_some,Option.getD_none,List.length_map,k1,k3]; omega,by simp⟩,fun _=>⟨by simp only; omega,by simp only; omega⟩,?_⟩
          refine ⟨fun _=>?_,fun h9=>by cases h9⟩
          have k7:slAt s1 S j=slAt s S j:=by unfold slAt; rw [k2]
          obtain ⟨t1,t2,t3,t4,t5,t6⟩:=hsale A it n c hA rfl
          obtain ⟨i5,rfl⟩:∃i5:Nat,it=(i5:Int):=⟨it.toNat,by omega⟩
          have t7:=slAt_get s S j i5 (by omega)
          have t8:=hsum j i5
          have t9:(ofI (S.drop j) i5).length≤1000:=by
           unfold ofI; rw [List.length_map]
           refine Nat.le_trans (List.length_filter_le ..) ?_
           rw [List.length_drop]; have:=h.len; omega
          have hsell:CSpec Tryz.prog 54 [.ptr 0 0,.dv (I i5),.agg [.dv (I st.tick),.dv (I n),.dv (I c),.dv (I 0),.dv (I 0)]] 6 (vK false (leftM s1 S j)) 0 [] (vKg false true true (sellM (leftM s1 S j) i5 (ofI (S.drop j) i5) st.tick n c)):=by
           cases hf7:(s.sl.getD i5 (true,[])).1 with
           | true =>
            have hn7:ofI (S.drop j) i5=[]:=ofI_drop_nil (by have h1:=h.sll; have hg:=List.getElem?_eq_getElem (l:=s.sl) (i:=i5) (by omega); rw [List.getD_eq_getElem?_getD,hg] at hf7; generalize s.sl[i5]=q at hg hf7; obtain ⟨f7,l7⟩:=q; rw [←h.sl _ _ _ hg]; exact h.sf _ _ _ hg hf7) j
            rw [hn7]
            exact sell1_spec _ i5 (by show (slAt s1 S j)[i5]?=_; rw [k7,t7,hf7,hn7]) _ _ _ ⟨by simp only [leftM]; omega,by simp only [leftM]; omega⟩ (by simp only [leftM,List.length_drop,k1]; omega)
           | false =>
            exact sell2_spec _ i5 _ (by show (slAt s1 S j)[i5]?=_; rw [k7,t7,hf7]) _ _ _ ⟨by simp only [leftM]; omega,by simp only [leftM]; omega⟩ (by simp only [leftM,List.length_drop,k1]; omega) t9 ⟨t8.1,t8.2.1⟩ t8.2.2 ⟨by omega,by omega⟩ ⟨by omega,by omega⟩
          have hKeq:feedRel s S st (.ok A) [.dv (I 0)] (vKg false true true { sellM (leftM s1 S j) i5 (ofI (S.drop j) i5) st.tick n c with last:=st.tick }):=by
           refine ⟨done,k6,rfl,?_⟩
           rw [hs1,←k5,hsa,hlvn]
           have h0:feedF s S st s1={ sellM (leftM s1 S j) i5 (ofI (S.drop j) i5) st.tick n c with last:=st.tick }:=by unfold feedF; rw [hsa,hlvn]; rfl
           rw [h0]; simp
          cases hh
          ·refine .inr ⟨[0,1,2,3,4,5],[.ptr 0 0,.dv (I i5),.agg [.dv (I st.tick),.dv (I n),.dv (I c),.dv (I 0),.dv (I 0)]],vK false (leftM s1 S j),0,_,_,hsell,by kernel_rfl,by kernel_rfl,⟨rfl,rf,⟨rf,rf,rf,rf,rf,tv⟩,tv⟩,⟨⟨rf,rf,rf,rf,rf,rf,rfl,rfl,rfl,rfl,rfl,tv⟩,⟨rfl,rfl⟩,⟨rfl,rfl⟩,⟨rfl,rfl⟩,⟨rfl,by rw [←k7]; rfl⟩,⟨rfl,hdl⟩,tv⟩,?_⟩
           exact ⟨_,_,hKeq,by kernel_rfl,⟨rf,tv⟩,⟨rf,rf,rf,rf,rf,rf,rfl,rfl,rfl,rfl,rfl,tv⟩,⟨rfl,rfl⟩,⟨rfl,rfl⟩,⟨rfl,rfl⟩,⟨rfl,rfl⟩,⟨rfl,rfl⟩,tv⟩
          ·refine .inr ⟨[0,1,2,3,4,5],[.ptr 0 0,.dv (I i5),.agg [.dv (I st.tick),.dv (I n),.dv (I c),.dv (I 0),.dv (I 0)]],vK false (leftM s1 S j),0,_,_,hsell,by kernel_rfl,by kernel_rfl,⟨rfl,rf,⟨rf,rf,rf,rf,rf,tv⟩,tv⟩,⟨⟨rf,rf,rf,rf,rf,rf,rfl,rfl,rfl,rfl,rfl,tv⟩,⟨rfl,rfl⟩,⟨rfl,rfl⟩,⟨rfl,rfl⟩,⟨rfl,by rw [←k7]; rfl⟩,⟨rfl,hdl⟩,tv⟩,?_⟩
           exact ⟨_,_,hKeq,by kernel_rfl,⟨rf,tv⟩,⟨rf,rf,rf,rf,rf,rf,rfl,rfl,rfl,rfl,rfl,tv⟩,⟨rfl,rfl⟩,⟨rfl,rfl⟩,⟨rfl,rfl⟩,⟨rfl,rfl⟩,⟨rfl,rfl⟩,tv⟩
       ·refine .inr (.inl ⟨fun _=>⟨by simp,by simp,by simp only [k1,List.length_map,Option.getD_some]; omega⟩,?_⟩)
        refine ⟨Lp3,lp3 s s1 S st it n c true lv true,fun z=>z.j≤lv∧z.h=decide (0<z.j),fun z=>lv - z.j,⟨0,false⟩,fun z=>by obtain ⟨z1,z2⟩:=z; cases z2 <;> rfl,?_,?_,?_⟩
        ·exact ⟨⟨rfl,rfl,rf,rf,rf,rf,rf,rfl,rf,rf,tv⟩,⟨⟨rf,rf,rf,rf,rf,rf,rfl,rfl,rfl,rfl,rfl,tv⟩,⟨rfl,rfl⟩,⟨rfl,rfl⟩,⟨rfl,rfl⟩,⟨rfl,by rw [sl0]⟩,⟨rfl,rfl⟩,⟨rf,rf,rf,rf,rf,rf,rf,tv⟩,tv⟩,rfl,rfl⟩
        ·exact ⟨Nat.zero_le _,rfl⟩
        ·rintro ⟨j,hh⟩ ⟨q1,q2⟩
         simp only at q1 q2
         refine ⟨fun hlt=>?_,fun hge=>?_⟩
         ·have hlt:j<lv:=by have:=of_decide_eq_true hlt; simp only [Int.ofNat_lt] at this; exact this
          obtain ⟨⟨i4,x0⟩,hx0⟩:∃q,S[j]?=some q:=⟨_,List.getElem?_eq_getElem (by omega)⟩
          have hi4:i4<4:=h.it _ (List.mem_of_getElem? hx0)
          have hso:(s1.sold.map I)[0+((j:Int)).toNat]?=some (I (i4:Int)):=by rw [k1,h.sold,List.map_map,List.getElem?_map,Nat.zero_add,Int.toNat_natCast,hx0]; rfl
          obtain ⟨e1,e2⟩:=slAt_step h hx0
          have hse:((slAt s S j).map eSs)[((i4:Int)).toNat]?=some (.osl 5 (eSl x0::(ofI (S.drop (j+1)) i4).map eSl)):=by rw [List.getElem?_map,Int.toNat_natCast,e1]; rfl
          refine ⟨fun _=>⟨by simp only; omega,by simp only; omega⟩,I (i4:Int),fun _=>hso,?_⟩
          have hin:(0:Int)≤(i4:Int)∧(i4:Int)<(((slAt s S j).map eSs).length:Int):=⟨by omega,by rw [List.length_map,slAt_len]; omega⟩
          have b4:DV.osl 1 ((((slAt s S j).map eSs).set ((i4:Int)).toNat .any).set ((i4:Int)).toNat (.osl 5 ((ofI (S.drop (j+1)) i4).map eSl)))=.osl 1 ((slAt s S (j+1)).map eSs):=by
           rw [List.set_set,Int.toNat_natCast,e2,List.map_set]; rfl
          have hdr1:DV.osl 5 (List.drop 1 (List.take ((((eSl x0::(ofI (S.drop (j+1)) i4).map eSl).length:Nat):Int)).toNat (eSl x0::(ofI (S.drop (j+1)) i4).map eSl)))=DV.osl 5 ((ofI (S.drop (j+1)) i4).map eSl):=by
           rw [Int.toNat_natCast,List.take_length]; rfl
          cases hh
          ·refine ⟨fun _=>hin,.osl 5 (eSl x0::(ofI (S.drop (j+1)) i4).map eSl),fun _=>hse,?_⟩
           refine .inr (.inr ⟨.osl 5 (eSl x0::(ofI (S.drop (j+1)) i4).map eSl),fun _=>hse,⟨by simp,by simp; omega,by simp⟩,?_⟩)
           refine ⟨.osl 5 (eSl x0::(ofI (S.drop (j+1)) i4).map eSl),hse,?_⟩
           refine ⟨fun _=>by rw [List.length_set]; exact hin,[.osl 5 ((ofI (S.drop (j+1)) i4).map eSl)],⟨hdr1,tv⟩,.any,List.getElem?_set_self (by rw [List.length_map,slAt_len]; omega),?_⟩
           refine ⟨by kernel_rfl,fun _=>⟨by simp only; omega,by simp only; omega⟩,⟨j+1,true⟩,⟨⟨rfl,rfl,rf,rf,rf,rf,rf,rfl,rf,le_int (by simp),tv⟩,⟨⟨rf,rf,rf,rf,rf,rf,rfl,rfl,rfl,rfl,rfl,tv⟩,⟨rfl,rfl⟩,⟨rfl,rfl⟩,⟨rfl,rfl⟩,⟨rfl,b4⟩,⟨rfl,rfl⟩,⟨rf,rf,rf,rf,rf,rf,rf,tv⟩,tv⟩,rfl,rfl⟩,⟨by simp only; omega,by simp⟩,by simp only; omega⟩
          ·refine ⟨fun _=>hin,.osl 5 (eSl x0::(ofI (S.drop (j+1)) i4).map eSl),fun _=>hse,?_⟩
           refine .inr (.inr ⟨.osl 5 (eSl x0::(ofI (S.drop (j+1)) i4).map eSl),fun _=>hse,⟨by simp,by simp; omega,by simp⟩,?_⟩)
           refine ⟨.osl 5 (eSl x0::(ofI (S.drop (j+1)) i4).map eSl),hse,?_⟩
           refine ⟨fun _=>by rw [List.length_set]; exact hin,[.osl 5 ((ofI (S.drop (j+1)) i4).map eSl)],⟨hdr1,tv⟩,.any,List.getElem?_set_self (by rw [List.length_map,slAt_len]; omega),?_⟩
           refine ⟨by kernel_rfl,fun _=>⟨by simp only; omega,by simp only; omega⟩,⟨j+1,true⟩,⟨⟨rfl,rfl,rf,rf,rf,rf,rf,rfl,rf,le_int (by simp),tv⟩,⟨⟨rf,rf,rf,rf,rf,rf,rfl,rfl,rfl,rfl,rfl,tv⟩,⟨rfl,rfl⟩,⟨rfl,rfl⟩,⟨rfl,rfl⟩,⟨rfl,b4⟩,⟨rfl,rfl⟩,⟨rf,rf,rf,rf,rf,rf,rf,tv⟩,tv⟩,rfl,rfl⟩,⟨by simp only; omega,by simp⟩,by simp only; omega⟩
         ·have hge:j=lv:=by have:=of_decide_eq_false hge; simp only [Int.ofNat_lt] at this; omega
          subst hge
          have hdl:DV.osl 1 (List.drop ((j:Int)).toNat (List.take (((s1.sold.map I).length:Nat):Int).toNat (s1.sold.map I)))=vK.Ints2 (s1.sold.drop j):=by
           rw [Int.toNat_natCast,Int.toNat_natCast,List.take_length,←List.map_drop]; rfl
          refine .inl ⟨⟨by simp,by simp only [Option.getD_some,Option.getD_none,List.length_map,k1,k3]; omega,by simp⟩,fun _=>⟨by simp only; omega,by simp only; omega⟩,?_⟩
          refine ⟨fun _=>?_,fun h9=>by cases h9⟩
          have k7:slAt s1 S j=slAt s S j:=by unfold slAt; rw [k2]
          obtain ⟨t1,t2,t3,t4,t5,t6⟩:=hsale A it n c hA rfl
          obtain ⟨i5,rfl⟩:∃i5:Nat,it=(i5:Int):=⟨it.toNat,by omega⟩
          have t7:=slAt_get s S j i5 (by omega)
          have t8:=hsum j i5
          have t9:(ofI (S.drop j) i5).length≤1000:=by
           unfold ofI; rw [List.length_map]
           refine Nat.le_trans (List.length_filter_le ..) ?_
           rw [List.length_drop]; have:=h.len; omega
          have hsell:CSpec Tryz.prog 54 [.ptr 0 0,.dv (I i5),.agg [.dv (I st.tick),.dv (I n),.dv (I c),.dv (I 0),.dv (I 0)]] 6 (vK false (leftM s1 S j)) 0 [] (vKg false true true (sellM (leftM s1 S j) i5 (ofI (S.drop j) i5) st.tick n c)):=by
           cases hf7:(s.sl.getD i5 (true,[])).1 with
           | true =>
            have hn7:ofI (S.drop j) i5=[]:=ofI_drop_nil (by have h1:=h.sll; have hg:=List.getElem?_eq_getElem (l:=s.sl) (i:=i5) (by omega); rw [List.getD_eq_getElem?_getD,hg] at hf7; generalize s.sl[i5]=q at hg hf7; obtain ⟨f7,l7⟩:=q; rw [←h.sl _ _ _ hg]; exact h.sf _ _ _ hg hf7) j
            rw [hn7]
            exact sell1_spec _ i5 (by show (slAt s1 S j)[i5]?=_; rw [k7,t7,hf7,hn7]) _ _ _ ⟨by simp only [leftM]; omega,by simp only [leftM]; omega⟩ (by simp only [leftM,List.length_drop,k1]; omega)
           | false =>
            exact sell2_spec _ i5 _ (by show (slAt s1 S j)[i5]?=_; rw [k7,t7,hf7]) _ _ _ ⟨by simp only [leftM]; omega,by simp only [leftM]; omega⟩ (by simp only [leftM,List.length_drop,k1]; omega) t9 ⟨t8.1,t8.2.1⟩ t8.2.2 ⟨by omega,by omega⟩ ⟨by omega,by omega⟩
          have hKeq:feedRel s S st (.ok A) [.dv (I 0)] (vKg true true true { sellM (leftM s1 S j) i5 (ofI (S.drop j) i5) st.tick n c with last:=st.tick }):=by
           refine ⟨done,k6,rfl,?_⟩
           rw [hs1,←k5,hsa,hlvn]
           have h0:feedF s S st s1={ sellM (leftM s1 S j) i5 (ofI (S.drop j) i5) st.tick n c with last:=st.tick }:=by unfold feedF; rw [hsa,hlvn]; rfl
           rw [h0]; simp
          cases hh
          ·refine .inr ⟨[0,1,2,3,4,5],[.ptr 0 0,.dv (I i5),.agg [.dv (I st.tick),.dv (I n),.dv (I c),.dv (I 0),.dv (I 0)]],vK false (leftM s1 S j),0,_,_,hsell,by kernel_rfl,by kernel_rfl,⟨rfl,rf,⟨rf,rf,rf,rf,rf,tv⟩,tv⟩,⟨⟨rf,rf,rf,rf,rf,rf,rfl,rfl,rfl,rfl,rfl,tv⟩,⟨rfl,rfl⟩,⟨rfl,rfl⟩,⟨rfl,rfl⟩,⟨rfl,by rw [←k7]; rfl⟩,⟨rfl,hdl⟩,tv⟩,?_⟩
           exact ⟨_,_,hKeq,by kernel_rfl,⟨rf,tv⟩,⟨rf,rf,rf,rf,rf,rf,rfl,rfl,rfl,rfl,rfl,tv⟩,⟨rfl,rfl⟩,⟨rfl,rfl⟩,⟨rfl,rfl⟩,⟨rfl,rfl⟩,⟨rfl,rfl⟩,tv⟩
          ·refine .inr ⟨[0,1,2,3,4,5],[.ptr 0 0,.dv (I i5),.agg [.dv (I st.tick),.dv (I n),.dv (I c),.dv (I 0),.dv (I 0)]],vK false (leftM s1 S j),0,_,_,hsell,by kernel_rfl,by kernel_rfl,⟨rfl,rf,⟨rf,rf,rf,rf,rf,tv⟩,tv⟩,⟨⟨rf,rf,rf,rf,rf,rf,rfl,rfl,rfl,rfl,rfl,tv⟩,⟨rfl,rfl⟩,⟨rfl,rfl⟩,⟨rfl,rfl⟩,⟨rfl,by rw [←k7]; rfl⟩,⟨rfl,hdl⟩,tv⟩,?_⟩
           exact ⟨_,_,hKeq,by kernel_rfl,⟨rf,tv⟩,⟨rf,rf,rf,rf,rf,rf,rfl,rfl,rfl,rfl,rfl,tv⟩,⟨rfl,rfl⟩,⟨rfl,rfl⟩,⟨rfl,rfl⟩,⟨rfl,rfl⟩,⟨rfl,rfl⟩,tv⟩
      ·simp only at hcc
       rw [List.getElem?_map] at hcc
       obtain ⟨⟨k,x⟩,hk,rfl⟩:∃p,left[pos]?=some p∧cc=eHe p:=by
        cases hq:left[pos]? with
        | none=>rw [hq] at hcc; cases hcc
        | some p=>rw [hq] at hcc; exact ⟨p,rfl,by simpa using hcc.symm⟩
       refine ⟨closed_int x,?_⟩
       have hpe:(done++(k,x)::left.eraseIdx pos).Perm A:=((erase_perm hk).append_left done).symm.trans g1
       obtain ⟨ii,hok,htm⟩:=hset A hA done k x _ hpe
       have hspec:=set_spec (setsM s done) k ii x hok
       have hii:setM (setsM s done) k ii x=setsM s (done++[(k,x)]):=by
        unfold setsM; rw [List.foldl_append]; show setM _ k ii x=setM _ k k.2.toNat x
        rw [show k.2.toNat=ii by have:=hok.it; omega]
       rw [hii,htm] at hspec
       have hf2:touchA s (done++[(k,x)])=(f || touchM s k x):=by unfold touchA; rw [List.any_append,g2]; simp [touchA]
       cases f
       ·cases htt:touchM s k x
        ·rw [htt] at hspec hf2
         refine .inr ⟨[0,1,2,3,4,5],[.ptr 0 0,.agg [.dv (I k.1),.dv (I k.2)],.dv (I x)],vK false (setsM s done),0,_,_,hspec,by kernel_rfl,by kernel_rfl,⟨rfl,⟨rf,rf,tv⟩,rf,tv⟩,⟨⟨rf,rf,rf,rf,rf,rf,rfl,rfl,rfl,rfl,rfl,tv⟩,⟨rfl,rfl⟩,⟨rfl,rfl⟩,⟨rfl,rfl⟩,⟨rfl,rfl⟩,⟨rfl,rfl⟩,tv⟩,?_⟩
         exact ⟨⟨left.eraseIdx pos,done++[(k,x)],false⟩,⟨⟨rfl,rfl,rf,rf,rf,rf,rf,rfl,tv⟩,⟨⟨rf,rf,rf,rf,rf,rf,rfl,rfl,rfl,rfl,rfl,tv⟩,⟨rfl,rfl⟩,⟨rfl,rfl⟩,⟨rfl,rfl⟩,⟨rfl,rfl⟩,⟨rfl,rfl⟩,⟨rf,rf,rf,rf,rf,rf,rf,tv⟩,tv,⟨rfl,rfl,rfl,erase_map _ _,.inl rfl,tv⟩,tv⟩,rfl,rfl⟩,⟨by simp only [List.append_assoc]; exact hpe,hf2.symm⟩,by simp only; have:=erase_len hk; omega⟩
        ·rw [htt] at hspec hf2
         refine .inr ⟨[0,1,2,3,4,5],[.ptr 0 0,.agg [.dv (I k.1),.dv (I k.2)],.dv (I x)],vK false (setsM s done),0,_,_,hspec,by kernel_rfl,by kernel_rfl,⟨rfl,⟨rf,rf,tv⟩,rf,tv⟩,⟨⟨rf,rf,rf,rf,rf,rf,rfl,rfl,rfl,rfl,rfl,tv⟩,⟨rfl,rfl⟩,⟨rfl,rfl⟩,⟨rfl,rfl⟩,⟨rfl,rfl⟩,⟨rfl,rfl⟩,tv⟩,?_⟩
         exact ⟨⟨left.eraseIdx pos,done++[(k,x)],true⟩,⟨⟨rfl,rfl,rf,rf,rf,rf,rf,rfl,tv⟩,⟨⟨rf,rf,rf,rf,rf,rf,rfl,rfl,rfl,rfl,rfl,tv⟩,⟨rfl,rfl⟩,⟨rfl,rfl⟩,⟨rfl,rfl⟩,⟨rfl,rfl⟩,⟨rfl,rfl⟩,⟨rf,rf,rf,rf,rf,rf,rf,tv⟩,tv,⟨rfl,rfl,rfl,erase_map _ _,.inl rfl,tv⟩,tv⟩,rfl,rfl⟩,⟨by simp only [List.append_assoc]; exact hpe,hf2.symm⟩,by simp only; have:=erase_len hk; omega⟩
       ·cases htt:touchM s k x
        ·rw [htt] at hspec hf2
         refine .inr ⟨[0,1,2,3,4,5],[.ptr 0 0,.agg [.dv (I k.1),.dv (I k.2)],.dv (I x)],vK false (setsM s done),0,_,_,hspec,by kernel_rfl,by kernel_rfl,⟨rfl,⟨rf,rf,tv⟩,rf,tv⟩,⟨⟨rf,rf,rf,rf,rf,rf,rfl,rfl,rfl,rfl,rfl,tv⟩,⟨rfl,rfl⟩,⟨rfl,rfl⟩,⟨rfl,rfl⟩,⟨rfl,rfl⟩,⟨rfl,rfl⟩,tv⟩,?_⟩
         exact ⟨⟨left.eraseIdx pos,done++[(k,x)],true⟩,⟨⟨rfl,rfl,rf,rf,rf,rf,rf,rfl,tv⟩,⟨⟨rf,rf,rf,rf,rf,rf,rfl,rfl,rfl,rfl,rfl,tv⟩,⟨rfl,rfl⟩,⟨rfl,rfl⟩,⟨rfl,rfl⟩,⟨rfl,rfl⟩,⟨rfl,rfl⟩,⟨rf,rf,rf,rf,rf,rf,rf,tv⟩,tv,⟨rfl,rfl,rfl,erase_map _ _,.inl rfl,tv⟩,tv⟩,rfl,rfl⟩,⟨by simp only [List.append_assoc]; exact hpe,hf2.symm⟩,by simp only; have:=erase_len hk; omega⟩
        ·rw [htt] at hspec hf2
         refine .inr ⟨[0,1,2,3,4,5],[.ptr 0 0,.agg [.dv (I k.1),.dv (I k.2)],.dv (I x)],vK false (setsM s done),0,_,_,hspec,by kernel_rfl,by kernel_rfl,⟨rfl,⟨rf,rf,tv⟩,rf,tv⟩,⟨⟨rf,rf,rf,rf,rf,rf,rfl,rfl,rfl,rfl,rfl,tv⟩,⟨rfl,rfl⟩,⟨rfl,rfl⟩,⟨rfl,rfl⟩,⟨rfl,rfl⟩,⟨rfl,rfl⟩,tv⟩,?_⟩
         exact ⟨⟨left.eraseIdx pos,done++[(k,x)],true⟩,⟨⟨rfl,rfl,rf,rf,rf,rf,rf,rfl,tv⟩,⟨⟨rf,rf,rf,rf,rf,rf,rfl,rfl,rfl,rfl,rfl,tv⟩,⟨rfl,rfl⟩,⟨rfl,rfl⟩,⟨rfl,rfl⟩,⟨rfl,rfl⟩,⟨rfl,rfl⟩,⟨rf,rf,rf,rf,rf,rf,rf,tv⟩,tv,⟨rfl,rfl,rfl,erase_map _ _,.inl rfl,tv⟩,tv⟩,rfl,rfl⟩,⟨by simp only [List.append_assoc]; exact hpe,hf2.symm⟩,by simp only; have:=erase_len hk; omega⟩
    ·simp only at hcc
     rw [List.getElem?_map] at hcc
     obtain ⟨⟨k,x⟩,hk,rfl⟩:∃p,left[pos]?=some p∧cc=eHe p:=by
      cases hq:left[pos]? with
      | none=>rw [hq] at hcc; cases hcc
      | some p=>rw [hq] at hcc; exact ⟨p,rfl,by simpa using hcc.symm⟩
     refine ⟨closed_int x,?_⟩
     refine ⟨keyT_ky,eKy k,rfl,rfl,I (hv s.H k),(hget s.H k).isSome,fun _=>hg_ky s.H k,hz_ky s.H k,rfl,?_⟩
     refine ⟨by kernel_rfl,?_⟩
     repeat first | refine ⟨id,?_⟩ | refine ⟨fun _ h=>bw_f h,?_⟩ | refine ⟨fun _ h=>bw_t h,?_⟩ | refine ⟨fun h=>⟨h,fun h2=>bw_and h h2⟩,?_⟩ | refine ⟨fun h=>⟨h,fun h2=>bw_andf h h2⟩,?_⟩
     have hds:=dlts_erase s.H hk
     have hle:=erase_len hk
     refine ⟨fun hq=>?_,fun hq=>?_⟩
     ·have hd:dlt s.H (k,x)=1:=by
       show (bif (bif hv s.H k == 0 then x != 0 else false) then (1:Int) else _)=1
       rw [show (bif hv s.H k == 0 then x != 0 else false)=true from hq]; rfl
      have h0:hv s.H k=0:=by
       cases hz:(hv s.H k == 0) with
       | true=>simpa using hz
       | false=>rw [hz] at hq; cases hq
      refine ⟨fun _=>⟨by simp only; omega,by simp only; omega⟩,?_⟩
      repeat first | refine ⟨id,?_⟩ | refine ⟨fun _ h=>bw_f h,?_⟩ | refine ⟨fun _ h=>bw_t h,?_⟩ | refine ⟨fun h=>⟨h,fun h2=>bw_and h h2⟩,?_⟩ | refine ⟨fun h=>⟨h,fun h2=>bw_andf h h2⟩,?_⟩
      refine ⟨fun hr=>absurd hr (by rw [h0]; simp),fun _=>?_⟩
      exact ⟨⟨left.eraseIdx pos,sz+1⟩,⟨⟨rfl,rfl,rfl,rf,rf,rf,rf,rf,rf,rfl,tv⟩,⟨⟨rf,rf,rf,rf,rf,rf,rfl,rfl,rfl,rfl,rfl,tv⟩,⟨rfl,rfl⟩,⟨rfl,rfl⟩,⟨rfl,rfl⟩,⟨rfl,rfl⟩,⟨rfl,rfl⟩,⟨rf,rf,rf,rf,rf,rf,rf,tv⟩,tv,⟨rfl,rfl,rfl,erase_map _ _,.inl rfl,tv⟩,tv⟩,rfl,rfl⟩,⟨by simp only; omega,by simp only; omega,by simp only; omega,by simp only; omega⟩,by simp only; omega⟩
     ·repeat first | refine ⟨id,?_⟩ | refine ⟨fun _ h=>bw_f h,?_⟩ | refine ⟨fun _ h=>bw_t h,?_⟩ | refine ⟨fun h=>⟨h,fun h2=>bw_and h h2⟩,?_⟩ | refine ⟨fun h=>⟨h,fun h2=>bw_andf h h2⟩,?_⟩
      refine ⟨fun hr=>?_,fun hr=>?_⟩
      ·have hd:dlt s.H (k,x)=-1:=by
        show (bif (bif hv s.H k == 0 then x != 0 else false) then (1:Int) else bif (bif hv s.H k != 0 then x == 0 else false) then -1 else 0)=-1
        rw [show (bif hv s.H k == 0 then x != 0 else false)=false from hq,show (bif hv s.H k != 0 then x == 0 else false)=true from hr]; rfl
       refine ⟨fun _=>⟨by simp only; omega,by simp only; omega⟩,?_⟩
       exact ⟨⟨left.eraseIdx pos,sz - 1⟩,⟨⟨rfl,rfl,rfl,rf,rf,rf,rf,rf,rf,rfl,tv⟩,⟨⟨rf,rf,rf,rf,rf,rf,rfl,rfl,rfl,rfl,rfl,tv⟩,⟨rfl,rfl⟩,⟨rfl,rfl⟩,⟨rfl,rfl⟩,⟨rfl,rfl⟩,⟨rfl,rfl⟩,⟨rf,rf,rf,rf,rf,rf,rf,tv⟩,tv,⟨rfl,rfl,rfl,erase_map _ _,.inl rfl,tv⟩,tv⟩,rfl,rfl⟩,⟨by simp only; omega,by simp only; omega,by simp only; omega,by simp only; omega⟩,by simp only; omega⟩
      ·have hd:dlt s.H (k,x)=0:=by
        show (bif (bif hv s.H k == 0 then x != 0 else false) then (1:Int) else bif (bif hv s.H k != 0 then x == 0 else false) then -1 else 0)=0
        rw [show (bif hv s.H k == 0 then x != 0 else false)=false from hq,show (bif hv s.H k != 0 then x == 0 else false)=false from hr]; rfl
       exact ⟨⟨left.eraseIdx pos,sz⟩,⟨⟨rfl,rfl,rfl,rf,rf,rf,rf,rf,rf,rfl,tv⟩,⟨⟨rf,rf,rf,rf,rf,rf,rfl,rfl,rfl,rfl,rfl,tv⟩,⟨rfl,rfl⟩,⟨rfl,rfl⟩,⟨rfl,rfl⟩,⟨rfl,rfl⟩,⟨rfl,rfl⟩,⟨rf,rf,rf,rf,rf,rf,rf,tv⟩,tv,⟨rfl,rfl,rfl,erase_map _ _,.inl rfl,tv⟩,tv⟩,rfl,rfl⟩,⟨by simp only; omega,by simp only; omega,by simp only; omega,by simp only; omega⟩,by simp only; omega⟩
end Go.Proofs.YtpbdohkbiklflaaGreatDoor
