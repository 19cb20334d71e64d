import Derived.Test.YtfcfbfkjdenpdaaK3Q2
import Derived.Test.YtfcfbfkjdenpdaaK3D4
set_option linter.unusedVariables false
set_option linter.unusedSimpArgs false
set_option linter.unusedSectionVars false
namespace Go.Proofs.Ytfcfbfkjdenpdaa
open Go.TM
theorem closed_ints (l:List Int):∀x,x∈l.map I→x.closedCells:=fun x hx=>by
 obtain ⟨n,-,rfl⟩:=List.mem_map.1 hx
 exact closed_int n
theorem clone2_spec (M:List DV) (q:Int) (rows:Rows) (hM:mget M (I q)=some (.osl 1 (rows.map oRow))) (k:Nat) (l:List Int) (hr:rows[k]?=some l) (hl:l.length≤1000):CSpec Try.prog 81 [.own 0 0 0 [.key (I q) 0,.el k 0]] 1 [(0,.tree 0 0 (.omap intK M))] 1 [.own 1 0 0 []] [(0,.tree 0 0 (.omap intK M)),(1,.tree 0 0 (.osl 1 (l.map I)))]:=by
 refine cspec_of tab_ok mixed (calls_snd _) (range_snd _) Try.func81 rfl rfl (by kernel_rfl) ?_
 have h1:true=true→mget M (I q)=some (.osl 1 (rows.map oRow)):=fun _=>hM
 have h2:true=true→(rows.map oRow)[k]?=some (oRow l):=fun _=>by simp [hr]
 cases l with
 | nil =>
  refine ⟨.osl 1 (rows.map oRow),h1,oRow [],h2,.inl ⟨?_,?_⟩⟩
  ·exact ⟨_,_,⟨rfl,rfl⟩,rfl,⟨⟨rfl,rfl,rfl,rfl,1,rfl⟩,tv⟩,⟨rfl,rfl⟩,⟨rfl,rfl,1,rfl⟩,tv⟩
  ·refine .inr (.inl ⟨[],rfl,tv,(fun x hx=>by cases hx),.inr ⟨.osl 1 (rows.map oRow),h1,oRow [],h2,.inl ⟨(fun x hx=>by cases hx),?_⟩⟩⟩)
   exact ⟨[],tv,by simp,by simp,_,_,⟨rfl,rfl⟩,rfl,⟨rfl,tv⟩,⟨rfl,rfl⟩,⟨rfl,rfl⟩,tv⟩
 | cons x l =>
  refine ⟨.osl 1 (rows.map oRow),h1,oRow (x::l),h2,.inr ⟨by simp,(fun h=>by cases h),fun _=>?_⟩⟩
  refine .inr (.inl ⟨[],rfl,tv,(fun x hx=>by cases hx),.inr ⟨.osl 1 (rows.map oRow),h1,oRow (x::l),h2,.inl ⟨closed_ints (x::l),?_⟩⟩⟩)
  exact ⟨(x::l).map I,ELes.refl _,by rw [by22]; simp at hl ⊢; omega,by simp at hl ⊢; omega,_,_,⟨rfl,rfl⟩,rfl,⟨rfl,tv⟩,⟨rfl,rfl⟩,⟨rfl,rfl⟩,tv⟩
set_option maxHeartbeats 4000000 in
theorem after2_spec (M:List DV) (q:Int) (n:Nat) (hn:n≤1000) (m:Rows) (p:Nat) (hp:p≤4) (hr:Rect p n 1099511627776000000 m) (s:Stp) (hsp:s.put ≠ []→0≤s.party∧s.party<p) (hsl:s.put.length≤1000) (hsa:∀a,a∈s.put→0≤a.1∧a.1<n∧0≤a.2∧a.2≤1099511627776) (hM:mget M (I q)=some (.osl 1 (m.map oRow))):CSpec Try.prog 58 [.own 0 0 0 [.key (I q) 0],sA s] 1 [(0,.tree 0 0 (.omap intK M))] 0 [.dv (eRows (putAll m s.party s.put))] [(0,.tree 0 0 (.omap intK M))]:=by
 refine cspec_of tab_ok mixed (calls_snd _) (range_snd _) Try.func58 rfl rfl (by kernel_rfl) ?_
 have h1:true=true→mget M (I q)=some (.osl 1 (m.map oRow)):=fun _=>hM
 have hml:=hr.len
 refine ⟨.osl 1 (m.map oRow),h1,.nils,⟨rf,tv⟩,by simp,by simp,by rw [by26]; simp; omega,by simp; omega,false,(fun h=>by cases h),?_⟩
 refine ⟨.osl 1 (m.map oRow),h1,?_⟩
 refine ⟨Nat,fun k=>⟨3,[(3,.ptr 1 0),(5,.own 2 0 0 []),(13,.own 0 0 0 [.key (I q) 0]),(14,.dv (I m.length)),(15,.dv (I k))],[(0,.tree 0 0 (.omap intK M)),(1,.cells (dvs (eSs s).cells)),(2,.tree 0 0 (.osl 1 ((m.take k).map oRow++List.replicate (m.length - k) .nils)))]⟩,fun k=>k≤m.length,fun k=>m.length - k,0,fun _=>rfl,?_,by omega,?_⟩
 ·refine ⟨⟨rfl,rfl,rfl,le_int (by simp),rf,tv⟩,⟨⟨rfl,rfl⟩,⟨rf,rf,rf,rf,tv⟩,⟨rfl,?_⟩,tv⟩,rfl,rfl⟩
  show DV.osl 1 (List.replicate ((m.map oRow).length:Int).toNat .nils)=_
  simp
 intro k hk1
 refine ⟨fun h=>?_,fun h=>?_⟩
 ·have hk:k<m.length:=by
   have:(k:Int)<m.length:=of_decide_eq_true h
   omega
  clear h
  generalize hr':m[k]=r at *
  have hro:m[k]?=some r:=by rw [List.getElem?_eq_getElem hk,hr']
  have hrl:=hr.row r (List.mem_of_getElem? hro)
  refine ⟨.osl 1 (m.map oRow),h1,fun _=>⟨by omega,by simp; omega⟩,.osl 1 (m.map oRow),h1,oRow r,fun _=>by simp [hro],?_⟩
  refine .inr ⟨[0],[.own 0 0 0 [.key (I q) 0,.el k 0]],[(0,.tree 0 0 (.omap intK M))],1,_,_,clone2_spec M q m hM k r hro (by omega),rfl,rfl,⟨rfl,tv⟩,⟨⟨rfl,rfl⟩,tv⟩,?_⟩
  have hrk:List.replicate (m.length - k) DV.nils=DV.nils::List.replicate (m.length - (k+1)) DV.nils:=by
   rw [show m.length - k=(m.length - (k+1))+1 by omega,List.replicate_succ]
  have htl:((m.take k).map oRow).length=k:=by simp; omega
  refine ⟨fun _=>⟨by omega,by simp; omega⟩,[oRow r],⟨rfl,tv⟩,.nils,?_,?_⟩
  ·rw [Int.toNat_natCast,List.getElem?_append_right (by omega),htl,hrk]; simp
  refine ⟨fun _=>⟨by omega,by omega⟩,k+1,⟨⟨rfl,rfl,rfl,rf,le_int (by omega),tv⟩,⟨⟨rfl,rfl⟩,⟨rf,rf,rf,rf,tv⟩,⟨rfl,?_⟩,tv⟩,rfl,rfl⟩,by omega,by dsimp only; omega⟩
  show DV.osl 1 (((m.take k).map oRow++List.replicate (m.length - k) DV.nils).set (k:Int).toNat (oRow r))=.osl 1 ((m.take (k+1)).map oRow++List.replicate (m.length - (k+1)) DV.nils)
  rw [Int.toNat_natCast,List.set_append_right _ _ (by omega),htl,hrk,Nat.sub_self,List.set_cons_zero,List.take_add_one,hro,List.map_append,List.append_assoc]
  rfl
 have hk:k=m.length:=by
  have:¬ (k:Int)<m.length:=of_decide_eq_false h
  omega
 clear h
 subst hk
 refine ⟨AfI,fun z=>⟨3,[(3,.ptr 1 0),(5,.own 2 0 0 []),(27,.dv (ePut s.put)),(28,.dv (I s.put.length)),(29,.dv (I z.k))],[(0,.tree 0 0 (.omap intK M)),(1,.cells (dvs (eSs s).cells)),(2,.tree 0 0 (.osl 1 (z.m.map oRow)))]⟩,fun z=>z.k≤s.put.length∧z.m=putAll m s.party (s.put.take z.k)∧Rect p n (1099511627776000000+z.k * 1099511627776) z.m,fun z=>s.put.length - z.k,⟨0,m⟩,fun _=>rfl,?_,⟨by simp,rfl,hr.mono (by simp)⟩,?_⟩
 ·refine ⟨⟨rfl,rfl,rf,le_int (by simp),rf,tv⟩,⟨⟨rfl,rfl⟩,⟨rf,rf,rf,rf,tv⟩,⟨rfl,?_⟩,tv⟩,rfl,rfl⟩
  rw [List.take_length]; simp
 rintro ⟨k,m'⟩ ⟨hk1,hm',hr'⟩
 dsimp only at hk1 hm' hr'
 refine ⟨fun h=>?_,fun h=>?_⟩
 ·have hk:k<s.put.length:=by
   have:(k:Int)<s.put.length:=of_decide_eq_true h
   omega
  clear h
  obtain ⟨hp0,hp1⟩:=hsp (by intro e; rw [e] at hk; simp at hk)
  have hpt:s.party.toNat<m'.length:=by rw [hr'.len]; omega
  generalize hrw:m'[s.party.toNat]=row
  have hrow:m'[s.party.toNat]?=some row:=by rw [List.getElem?_eq_getElem hpt,hrw]
  have hrl:=hr'.row row (List.mem_of_getElem? hrow)
  generalize hpa':s.put[k]=am
  have hpk:s.put[k]?=some am:=by rw [List.getElem?_eq_getElem hk,hpa']
  obtain ⟨ha1,ha2,ha3,ha4⟩:=hsa am (List.mem_of_getElem? hpk)
  have hit:am.1.toNat<row.length:=by omega
  generalize hre:row[am.1.toNat]=el
  have hel:row[am.1.toNat]?=some el:=by rw [List.getElem?_eq_getElem hit,hre]
  have hbd:=hr'.bd row (List.mem_of_getElem? hrow) el (List.mem_of_getElem? hel)
  have hdl:m'.length=p:=hr'.len
  refine ⟨eAmt am,fun _=>⟨by dsimp only; omega,by simp [hpk]⟩,?_⟩
  refine ⟨fun _=>⟨hp0,by simp; omega⟩,oRow row,fun _=>by simp [hrow],?_⟩
  refine ⟨oRow row,fun _=>by simp [hrow],fun _=>⟨ha1,by simp; omega⟩,?_⟩
  refine ⟨oRow row,fun _=>by simp [hrow],I el,fun _=>by simp [hel],?_⟩
  refine ⟨fun _=>⟨by omega,by omega⟩,?_⟩
  refine ⟨oRow row,fun _=>by simp [hrow],fun _=>⟨ha1,by simp; omega⟩,?_⟩
  refine ⟨[I (el+am.2)],⟨rf,tv⟩,oRow row,fun _=>by simp [hrow],I el,by simp [hel],oRow row,by simp [hrow],by kernel_rfl,?_⟩
  refine ⟨fun _=>⟨by dsimp only; omega,by dsimp only; omega⟩,⟨k+1,addAt m' s.party.toNat am.1.toNat am.2⟩,⟨⟨rfl,rfl,rf,rf,le_int (by simp),tv⟩,⟨⟨rfl,rfl⟩,⟨rf,rf,rf,rf,tv⟩,⟨rfl,?_⟩,tv⟩,rfl,rfl⟩,⟨by dsimp only; omega,?_,(hr'.add ha3 _ _).mono (by dsimp only; omega)⟩,by dsimp only; omega⟩
  ·exact congrArg (DV.osl 1) (addAt_map hrow hel)
  ·dsimp only
   rw [List.take_add_one,hpk,putAll,List.foldl_append]
   show _=addAt (putAll m s.party (s.put.take k)) _ _ _
   rw [←hm']
 ·have hk:k=s.put.length:=by
   have:¬ (k:Int)<s.put.length:=of_decide_eq_false h
   omega
  clear h
  subst hk
  rw [List.take_length] at hm'
  refine ⟨_,_,⟨rfl,rfl⟩,rfl,⟨DV.Le.of_eq ?_,tv⟩,⟨rfl,rfl⟩,tv⟩
  show DV.sl 1 (fzL (m'.map oRow))=.sl 1 ((putAll m s.party s.put).map Ints)
  rw [←hm',fzL_eq,List.map_map]
  congr 1
  refine List.map_congr_left fun r _=>?_
  show DV.sl 1 (fzL (r.map I))=_
  rw [fzL_map fun _=>rfl]
set_option maxHeartbeats 4000000 in
theorem to2_spec (d:Dea) (b:PB) (o:List Int) (s:Int) (way:List Int) (h:TW b s way) (hw:way.length≤100000):CSpec Try.prog 42 [.ptr 2 0,.dv (I s)] 4 (tK d b o) 1 [.own 4 0 0 []] (tK d b o++[(4,.tree 0 0 (.osl 1 (way.map I)))]):=by
 refine cspec_of tab_ok mixed (calls_snd _) (range_snd _) Try.func42 rfl rfl (by kernel_rfl) ?_
 refine ⟨ToI,fun z=>⟨5,[(0,.ptr 2 0),(1,.dv (I z.s)),(5,.own 4 0 0 [])],tK d b o++[(4,.tree 0 0 (.osl 1 (z.acc.map I)))]⟩,fun z=>TW b z.s z.w∧way=z.w++z.acc.reverse,fun z=>z.w.length,⟨s,way,[]⟩,fun _=>rfl,?_,⟨h,by simp⟩,?_⟩
 ·exact ⟨⟨rfl,rf,⟨rfl,rfl,rfl,rfl,1,rfl⟩,tv⟩,⟨⟨rfl,rfl⟩,⟨rfl,rfl⟩,⟨rf,rf,rf,rfl,rfl,rfl,tv⟩,⟨rfl,rfl⟩,⟨rfl,rfl,1,rfl⟩,tv⟩,rfl,rfl⟩
 ·rintro ⟨s,w,acc⟩ ⟨ht,hway⟩
  dsimp only at ht hway
  have hal:w.length+acc.length=way.length:=by rw [hway]; simp
  cases ht with
  | @nil _ p hf hp =>
   refine ⟨keyT3,I s,rfl,rfl,I p,true,fun _=>?_,(fun h=>by cases h),rfl,?_⟩
   ·rw [mget_int (fun x=>I x),hf]; rfl
   refine ⟨fun h=>?_,fun _=>?_⟩
   ·exfalso
    have h:(0:Int)≤p:=of_decide_eq_true h
    omega
   refine .inr ⟨[4],[.own 0 0 0 []],[(0,.tree 0 0 (.osl 1 (acc.map I)))],0,_,_,reverse_spec acc (by omega),rfl,rfl,⟨rfl,tv⟩,⟨⟨rfl,rfl⟩,tv⟩,?_⟩
   refine ⟨_,_,⟨rfl,rfl⟩,by kernel_rfl,⟨rfl,tv⟩,⟨rfl,rfl⟩,⟨rfl,rfl⟩,⟨rf,rf,rf,rfl,rfl,rfl,tv⟩,⟨rfl,rfl⟩,⟨rfl,?_⟩,tv⟩
   rw [hway]; rfl
  | @snoc _ p st w hf hp hst hr =>
   refine ⟨keyT3,I s,rfl,rfl,I p,true,fun _=>?_,(fun h=>by cases h),rfl,?_⟩
   ·rw [mget_int (fun x=>I x),hf]; rfl
   refine ⟨fun _=>?_,fun h=>?_⟩
   ·refine ⟨keyT3,I s,rfl,rfl,eSs st,true,fun _=>?_,(fun h=>by cases h),rfl,?_⟩
    ·rw [mget_int eSs,hst]; rfl
    simp only [List.length_append,List.length_cons,List.length_nil] at hal
    refine .inl ⟨[I st.label],rfl,⟨rf,tv⟩,fun y hy=>(by rcases List.mem_singleton.1 hy with rfl; rfl),.inr ⟨[I st.label],ELes.refl _,(by rw [by22]; simp; omega),(by simp; omega),?_⟩⟩
    refine ⟨keyT3,I s,rfl,rfl,I p,true,fun _=>?_,(fun h=>by cases h),rfl,?_⟩
    ·rw [mget_int (fun x=>I x),hf]; rfl
    refine ⟨⟨p,w,acc++[st.label]⟩,⟨⟨rfl,rf,rfl,tv⟩,⟨⟨rfl,rfl⟩,⟨rfl,rfl⟩,⟨rf,rf,rf,rfl,rfl,rfl,tv⟩,⟨rfl,rfl⟩,⟨rfl,by simp⟩,tv⟩,rfl,rfl⟩,⟨hr,by simp [hway]⟩,by simp⟩
   ·exfalso
    have h:¬ (0:Int)≤p:=of_decide_eq_false h
    omega
end Go.Proofs.Ytfcfbfkjdenpdaa
namespace Go.Proofs.Ytfcfbfkjdenpdaa
open Go.TM
def cVal (k:Int) (r:Rows):DV:=if k=0 then .osl 1 (r.map oRow) else eRows r
def eCon (m:List (Int × Rows)):DV:=.omap intK (m.map fun x=>.ent (I x.1) (cVal x.1 x.2))
theorem mget_con (k:Int):∀m:List (Int × Rows),mget (m.map fun x=>.ent (I x.1) (cVal x.1 x.2)) (I k)=(lookI m k).map (cVal k)
 | []=>rfl
 | x::m=>by
  simp only [List.map_cons,mget,keq_int,lookI,List.find?_cons]
  by_cases h:x.1=k
  ·subst h; simp
  ·have hb:(x.1 == k)=false:=by simpa using h
   simp only [h,decide_false,hb,cond_false]
   exact mget_con k m
theorem mput_con (k:Int) (v:DV):∀m:List (Int × Rows),k ∉ m.map (·.1)→mput (m.map fun x=>.ent (I x.1) (cVal x.1 x.2)) (I k) v=(m.map fun x=>.ent (I x.1) (cVal x.1 x.2))++[.ent (I k) v]
 | [],_=>rfl
 | x::m,h=>by
  simp only [List.map_cons,List.mem_cons,not_or] at h
  have h1:¬ x.1=k:=fun e=>h.1 e.symm
  simp only [List.map_cons,mput,keq_int,decide_eq_false h1,cond_false,List.cons_append]
  rw [mput_con k v m h.2]
def aSl:List AV:=((((List.replicate 171 .any).set 4 (.ptr 1 0)).set 5 (.ptr 2 0)).set 8 (.ptr 3 0)).set 13 (.ptr 4 0)
def zF:List AV:=dvs [I 0,I 0,I 0,.nils]
def aK (rc:RC) (st:RSt) (n:Nat) (d:Dea) (s:Int) (f:List AV):Boxes:=[(0,.rcd rc st aSl),(1,.cells [.dv .nilp]),(2,.cells f),(3,.cells [.ptr 5 0]),(4,.cells [.dv (I s)]),(5,.cells [.ptr 6 0,.dv (I n),.own 7 0 0 []]),(6,.cells (wC d (.own 8 0 0 []) (.own 9 0 0 []) (.own 10 0 0 []))),(7,.tree 0 0 (eCon (conAt n d (disc d).order.length))),(8,.tree 0 0 (eFrom (pD d).from_)),(9,.tree 0 0 (eStps (pD d).steps)),(10,.tree 0 0 (.osl 1 ((keysF (pD d)).map I)))]
structure AbF (n:Nat) (d:Dea) (s:Int) (v:List Int) (t:Stp) (u:List Int):Prop where
 tw:TW (pD d) s v
 vl:v.length≤32
 wn:wayOf d t.next=some u
 g1:mget ((conAt n d (disc d).order.length).map fun x=>.ent (I x.1) (cVal x.1 x.2)) (I s)=some (cVal s (folM n d v))
 g2:mget ((conAt n d (disc d).order.length).map fun x=>.ent (I x.1) (cVal x.1 x.2)) (I t.next)=some (cVal t.next (folM n d u))
 af:PSpec Try.prog 58 [eRows (folM n d v),eSs t] [eRows (folM n d (v++[t.label]))]
 af2:s=0→CSpec Try.prog 58 [.own 0 0 0 [.key (I s) 0],sA t] 1 [(0,.tree 0 0 (eCon (conAt n d (disc d).order.length)))] 0 [.dv (eRows (folM n d (v++[t.label])))] [(0,.tree 0 0 (eCon (conAt n d (disc d).order.length)))]
 ra:Rect d.parties.length n 1099511627776000000 (folM n d (v++[t.label]))
 rb:Rect d.parties.length n 1099511627776000000 (folM n d u)
 sf:stepF n d v t=match ((folM n d (v++[t.label])).zip (folM n d u)).findIdx? rowNe with
         | some p=>some ⟨17,t.next,p,v++[t.label]⟩
         | none=>none
theorem stepsOf_put {d:Dea} {x:Sta} {t:Stp} (h:t∈stepsOf d x) (ht:t.put ≠ []):∃o,o∈x.opts∧o.party=t.party∧o.put=t.put:=by
 have hopt:∀k (t:Stp),t∈optSteps d x k→∃o,o∈x.opts∧o.party=t.party∧o.put=t.put:=by
  intro k
  induction k with
  | zero=>intro t h; simp [optSteps] at h
  | succ k ih =>
   intro t h
   simp only [optSteps] at h
   split at h
   ·rename_i o ho
    split at h
    ·rcases List.mem_append.1 h with h | h
     ·exact ih t h
     ·rcases List.mem_singleton.1 h with rfl
      exact ⟨o,List.mem_of_getElem? ho,rfl,rfl⟩
    ·exact ih t h
   ·exact ih t h
 unfold stepsOf at h
 rcases List.mem_append.1 h with h | h
 ·split at h
  ·simp at h
  ·exact hopt _ t h
 ·split at h
  ·rcases List.mem_singleton.1 h with rfl; exact absurd rfl ht
  ·simp at h
theorem abF (n:Nat) (d:Dea) (hwf:WF n d) (i:Nat) (s:Int) (v:List Int) (hso:(disc d).order[i]?=some s) (hvo:(disc d).ways[i]?=some v) (x:Sta) (hx:d.states[s.toNat]?=some x) (t:Stp) (ht:t∈stepsOf d x):∃u,AbF n d s v t u:=by
 have hb:=disc_ok d
 have hol:=hb.le
 have hsl:=hwf.sl
 have hvw:=wayOf_at d hso hvo
 have hvl:=way_len hvw
 have hrg:=hb.rng _ (List.mem_of_getElem? hso)
 have hpv:=leads_disc d i _ v hso hvo
 have hed:=stepsOf_edge hrg.1 hx ht
 have hpt:=hpv.snoc hed
 obtain ⟨u,hu,hul⟩:=way_near hwf.ne hvw hx ht
 have hul2:=way_len hu
 obtain ⟨ku,hku1,hku2⟩:=wayOf_inv hu
 have hpu:=leads_disc d ku _ u hku1 hku2
 have hn64:=hwf.n64
 have hra0:=rect_folM hwf.opt hpv (by omega)
 have hg1:mget ((conAt n d (disc d).order.length).map fun x=>.ent (I x.1) (cVal x.1 x.2)) (I s)=some (cVal s (folM n d v)):=by
  rw [mget_con,conAt_look n hb (List.getElem?_eq_some_iff.1 hso).1 hso hvo]; rfl
 have hput:∀(P:Prop),(∀o,o∈x.opts→o.party=t.party→o.put=t.put→P)→t.put ≠ []→P:=fun P h hne=>by
  obtain ⟨o,h1,h2,h3⟩:=stepsOf_put ht hne
  exact h o h1 h2 h3
 have p1:t.put ≠ []→0≤t.party∧t.party<d.parties.length:=fun hne=>hput _ (fun o h1 h2 h3=>by
  have:=hwf.opt.opt x (List.mem_of_getElem? hx) o h1
  rw [h2] at this; exact ⟨this.1,this.2.1⟩) hne
 have p2:t.put.length≤1000:=by
  by_cases hne:t.put=[]
  ·rw [hne]; simp
  ·refine hput _ (fun o h1 h2 h3=>?_) hne
   have:=hwf.opt.opt x (List.mem_of_getElem? hx) o h1
   rw [h3] at this; exact this.2.2.1
 have p3:∀a,a∈t.put→0≤a.1∧a.1<n∧0≤a.2∧a.2≤1099511627776:=by
  intro a ha
  refine hput _ (fun o h1 h2 h3=>?_) (by intro e; rw [e] at ha; simp at ha)
  have:=hwf.opt.opt x (List.mem_of_getElem? hx) o h1
  rw [h3] at this; exact this.2.2.2 a ha
 refine ⟨u,(wok_disc d hwf.ne).tw i s v hso hvo,by omega,hu,hg1,?_,?_,?_,rect_folM hwf.opt hpt (by simp; omega),rect_folM hwf.opt hpu (by omega),?_⟩
 ·rw [mget_con,conAt_look n hb (List.getElem?_eq_some_iff.1 hku1).1 hku1 hku2]; rfl
 ·rw [fol_step n hpv hx ht]
  exact after_spec n (by omega) _ _ hwf.p4 hra0 t p1 p2 p3
 ·intro h0
  rw [fol_step n hpv hx ht]
  rw [cVal,if_pos h0] at hg1
  exact after2_spec _ s n (by omega) _ _ hwf.p4 hra0 t p1 p2 p3 hg1
 ·have hwt:wayTo d t.next=u:=by simp [wayTo,hu]
  simp only [stepF,hwt]
  generalize List.findIdx? rowNe (List.zip (folM n d (v++[t.label])) (folM n d u))=z
  cases z <;> rfl
def abR:Option Fau→Bool
 | none=>true
 | some _=>false
def abS:Option Fau→RSt
 | none=>.ready
 | some _=>.done .ret
def abC:Option Fau→List AV
 | none=>zF
 | some f=>dvs (eFau f).cells
def aK1 (rc:RC) (n:Nat) (d:Dea) (s:Int) (t:Stp):Boxes:=aK rc .busy n d s zF++[(11,.cells (dvs (eSs t).cells))]
set_option maxRecDepth 100000 in
set_option maxHeartbeats 4000000 in
theorem abody_spec (n:Nat) (d:Dea) (hwf:WF n d) (s:Int) (v:List Int) (t:Stp) (u:List Int) (hF:AbF n d s v t u) (o:Option Fau) (ho:stepF n d v t=o) :
  YSpecR Try.prog [sA t] 11 (aK (rcF Try.f31) .ready n d s zF) 0 fun r k=>r=[.dv (.bool (abR o))]∧k=aK (rcF Try.f31) (abS o) n d s (abC o):=by
 refine yspecR_of tab_ok mixed rfl (by kernel_rfl) ?_
 obtain ⟨htw,hvl,hwn,hg1,hg2,haf,haf2,hra,hrb,hsf⟩:=hF
 generalize folM n d (v++[t.label])=ma at *
 generalize folM n d u=mb at *
 generalize folM n d v=m0 at *
 by_cases hs0:s=0
 case' pos =>
  refine ⟨keyT3,I s,rfl,rfl,.osl 1 (m0.map oRow),true,fun _=>(by rw [hg1,cVal,if_pos hs0]; rfl),(fun h=>by cases h),rfl,?_⟩
  refine .inr ⟨[7],[.own 0 0 0 [.key (I s) 0],sA t],[(0,.tree 0 0 (eCon (conAt n d (disc d).order.length)))],0,_,_,haf2 hs0,by kernel_rfl,by kernel_rfl,⟨rfl,⟨rf,rf,rf,rf,tv⟩,tv⟩,⟨⟨rfl,rfl⟩,tv⟩,by kernel_rfl,?_⟩
 case' neg =>
  refine ⟨keyT3,I s,rfl,rfl,eRows m0,true,fun _=>(by rw [hg1,cVal,if_neg hs0]; rfl),(fun h=>by cases h),rfl,?_⟩
  refine .inl ⟨_,fun _=>haf.ok,by kernel_rfl,?_⟩
 all_goals
  have hal:=hra.len
  have hbl:=hrb.len
  have hp4:=hwf.p4
  have hn64:=hwf.n64
  refine ⟨Nat,fun p=>⟨12,[(4,.ptr 1 0),(5,.ptr 2 0),(8,.ptr 3 0),(13,.ptr 4 0),(14,.ptr 11 0),(133,.dv (eRows ma)),(134,.dv (I ma.length)),(135,.dv (I p))],aK1 (rcF Try.f31) n d s t⟩,fun p=>p≤ma.length∧((ma.zip mb).take p).all (fun a=>!rowNe a)=true,fun p=>ma.length - p,0,(fun _=>by kernel_rfl),?_,⟨by omega,by simp⟩,?_⟩
  ·exact ⟨⟨rfl,rfl,rfl,rfl,rfl,rf,le_int (by simp),rf,tv⟩,⟨⟨rfl,rfl,subWs_ok (by kernel_rfl)⟩,⟨rf,tv⟩,⟨rf,rf,rf,rf,tv⟩,⟨rfl,tv⟩,⟨rf,tv⟩,⟨rfl,rf,rfl,tv⟩,⟨rf,rf,rf,rfl,rfl,rfl,tv⟩,⟨rfl,rfl⟩,⟨rfl,rfl⟩,⟨rfl,rfl⟩,⟨rfl,rfl⟩,⟨rf,rf,rf,rf,tv⟩,tv⟩,by kernel_rfl,by kernel_rfl⟩
  rintro p ⟨hp1,hp2⟩
  refine ⟨fun h=>?_,fun h=>?_⟩
  ·have hp:p<ma.length:=by
    have:(p:Int)<ma.length:=of_decide_eq_true h
    omega
   clear h
   generalize hr':ma[p]=ra at *
   have hrao:ma[p]?=some ra:=by rw [List.getElem?_eq_getElem hp,hr']
   generalize hr2':mb[p]'(by omega)=rb at *
   have hrbo:mb[p]?=some rb:=by rw [List.getElem?_eq_getElem (by omega),hr2']
   have hrl:=hra.row ra (List.mem_of_getElem? hrao)
   have hzo:=zip_at hrao hrbo
   have heq:=equal_spec ra rb (by omega)
   refine ⟨Ints ra,fun _=>⟨by omega,by simp [hrao]⟩,?_⟩
   by_cases hn0:t.next=0
   case' pos =>
    have hq:true=true→mget ((conAt n d (disc d).order.length).map fun x=>.ent (I x.1) (cVal x.1 x.2)) (I t.next)=some (.osl 1 (mb.map oRow)):=fun _=>by rw [hg2,cVal,if_pos hn0]
    refine ⟨keyT3,I t.next,rfl,rfl,.osl 1 (mb.map oRow),true,hq,(fun h=>by cases h),rfl,?_⟩
    refine ⟨.osl 1 (mb.map oRow),hq,fun _=>⟨by omega,by simp; omega⟩,.osl 1 (mb.map oRow),hq,oRow rb,fun _=>by simp [hrbo],?_⟩
    refine .inl ⟨.osl 1 (mb.map oRow),hq,oRow rb,fun _=>by simp [hrbo],?_⟩
    have hok:CallOk Try.prog 60 [Ints ra,fzD (oRow rb)] [B (ra == rb)]:=by
     have e:fzD (oRow rb)=Ints rb:=by show DV.sl 1 (fzL (rb.map I))=_; rw [fzL_map fun _=>rfl]
     rw [e]; exact heq.ok
    refine ⟨_,fun _=>hok,rfl,by kernel_rfl,?_⟩
   case' neg =>
    refine ⟨keyT3,I t.next,rfl,rfl,eRows mb,true,fun _=>(by rw [hg2,cVal,if_neg hn0]; rfl),(fun h=>by cases h),rfl,?_⟩
    refine ⟨Ints rb,fun _=>⟨by omega,by simp [hrbo]⟩,.inl ⟨_,fun _=>heq.ok,by kernel_rfl,?_⟩⟩
   all_goals
    refine ⟨fun h=>?_,fun h=>?_⟩
    ·have hne:rowNe (ra,rb)=true:=h
     clear h
     rw [findIdx_at hzo hp2 hne] at hsf
     have hon:o=some ⟨17,t.next,p,v++[t.label]⟩:=by rw [←ho]; exact hsf
     subst hon
     refine .inr ⟨[8,9,6,10],[.ptr 2 0,.dv (I s)],tK d (pD d) (keysF (pD d)),1,_,_,to2_spec d (pD d) (keysF (pD d)) s v htw (by omega),by kernel_rfl,by kernel_rfl,⟨rfl,rf,tv⟩,⟨⟨rfl,rfl⟩,⟨rfl,rfl⟩,⟨rf,rf,rf,rfl,rfl,rfl,tv⟩,⟨rfl,rfl⟩,tv⟩,?_⟩
     refine .inl ⟨[I t.label],rfl,⟨rf,tv⟩,fun y hy=>(by rcases List.mem_singleton.1 hy with rfl; rfl),.inr ⟨[I t.label],ELes.refl _,(by rw [by22]; simp; omega),(by simp; omega),?_⟩⟩
     refine ⟨by kernel_rfl,?_⟩
     refine ⟨_,_,⟨rfl,rfl⟩,by kernel_rfl,⟨rf,tv⟩,⟨rfl,rfl,subWs_ok (by kernel_rfl)⟩,⟨rf,tv⟩,⟨rf,rf,rf,DV.Le.of_eq ?_,tv⟩,⟨rfl,tv⟩,⟨rf,tv⟩,⟨rfl,rf,rfl,tv⟩,⟨rf,rf,rf,rfl,rfl,rfl,tv⟩,⟨rfl,rfl⟩,⟨rfl,rfl⟩,⟨rfl,rfl⟩,⟨rfl,rfl⟩,tv⟩
     show DV.sl 1 (fzL (v.map I++[I t.label]))=.sl 1 ((v++[t.label]).map I)
     have e:v.map I++[I t.label]=(v++[t.label]).map I:=by simp
     rw [e,fzL_map fun _=>rfl]
    ·have hne:rowNe (ra,rb)=false:=h
     clear h
     exact ⟨fun _=>⟨by omega,by omega⟩,p+1,⟨⟨rfl,rfl,rfl,rfl,rfl,rf,rf,le_int (by omega),tv⟩,⟨⟨rfl,rfl,subWs_ok (by kernel_rfl)⟩,⟨rf,tv⟩,⟨rf,rf,rf,rf,tv⟩,⟨rfl,tv⟩,⟨rf,tv⟩,⟨rfl,rf,rfl,tv⟩,⟨rf,rf,rf,rfl,rfl,rfl,tv⟩,⟨rfl,rfl⟩,⟨rfl,rfl⟩,⟨rfl,rfl⟩,⟨rfl,rfl⟩,⟨rf,rf,rf,rf,tv⟩,tv⟩,by kernel_rfl,by kernel_rfl⟩,⟨by omega,all_take hzo hp2 hne⟩,by dsimp only; omega⟩
  ·have hp:p=ma.length:=by
    have:¬ (p:Int)<ma.length:=of_decide_eq_false h
    omega
   clear h
   subst hp
   rw [List.take_of_length_le (by simp; omega)] at hp2
   rw [findIdx_no hp2] at hsf
   have hon:o=none:=by rw [←ho]; exact hsf
   subst hon
   exact ⟨_,_,⟨rfl,rfl⟩,by kernel_rfl,⟨rf,tv⟩,⟨⟨rfl,rfl,subWs_ok (by kernel_rfl)⟩,⟨rf,tv⟩,⟨rf,rf,rf,rf,tv⟩,⟨rfl,tv⟩,⟨rf,tv⟩,⟨rfl,rf,rfl,tv⟩,⟨rf,rf,rf,rfl,rfl,rfl,tv⟩,⟨rfl,rfl⟩,⟨rfl,rfl⟩,⟨rfl,rfl⟩,⟨rfl,rfl⟩,tv⟩⟩
end Go.Proofs.Ytfcfbfkjdenpdaa
