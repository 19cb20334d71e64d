import Derived.Test.YtfcfbfkjdenpdaaK3Q4
import Derived.Test.YtfcfbfkjdenpdaaK3Q1
import Derived.Test.YtfcfbfkjdenpdaaK3Q2
set_option linter.unusedVariables false
set_option linter.unusedSimpArgs false
set_option linter.unusedSectionVars false
namespace Go.Proofs.Ytfcfbfkjdenpdaa
open Go.TM
theorem TW.fn {b:PB} {s:Int} {v:List Int} (h:TW b s v):∀{w:List Int},TW b s w→v=w:=by
 induction h with
 | nil h1 h2 =>
  intro w hw
  cases hw with
  | nil=>rfl
  | snoc h3 h4=>rw [h1] at h3; injection h3 with h3; omega
 | snoc h1 h2 h3 _ ih =>
  intro w hw
  cases hw with
  | nil h4 h5=>rw [h1] at h4; injection h4 with h4; omega
  | snoc h4 h5 h6 h7 =>
   rw [h1] at h4; injection h4 with h4
   subst h4
   rw [h3] at h6; injection h6 with h6
   subst h6
   rw [ih h7]
theorem analyse_bad (n:Int) (d:Dea) (hs:Parts d) (k:Nat) (hm:malf n d=some k):PSpec Try.prog 31 [I n,eDea d] [.nilp,eFau (analyze n d)]:=by
 refine pspec_of tab_ok mixed (calls_snd _) (range_snd _) Try.func31 rfl (by kernel_rfl) rfl ?_
 have hf:=faulty_spec n d hs
 rw [hm] at hf
 refine .inl ⟨_,fun _=>hf.ok,fun _=>?_,(fun h=>by cases h)⟩
 simp only [analyze,hm]
 exact ⟨rf,DV.agg_le ⟨rf,rf,rf,DV.nils_le 1,tv⟩ (by simp [DV.isCell]),tv⟩
theorem stepParts (n:Nat) (d:Dea) (hwf:WF n d) (i:Nat) (s:Int) (v:List Int) (hso:(disc d).order[i]?=some s) (hvo:(disc d).ways[i]?=some v) (x:Sta) (hx:d.states[s.toNat]?=some x) (t:Stp) (ht:t∈stepsOf d x) :
  Rect d.parties.length n 1099511627776000000 (folM n d v)∧(t.put ≠ []→0≤t.party∧t.party<d.parties.length)∧t.put.length≤1000∧∀a,a∈t.put→0≤a.1∧a.1<n∧0≤a.2∧a.2≤1099511627776:=by
 have hvl:=way_len (wayOf_at d hso hvo)
 have hsl:=hwf.sl
 have hput:∀(P:Prop),(∀o,o∈x.opts→o.party=t.party→o.put=t.put→P)→t.put ≠ []→P:=fun P h hne=>by
  obtain ⟨o,h1,h2,h3⟩:=stepsOf_put ht hne
  exact h o h1 h2 h3
 refine ⟨rect_folM hwf.opt (leads_disc d i _ v hso hvo) (by omega),fun hne=>hput _ (fun o h1 h2 h3=>?_) hne,?_,?_⟩
 ·have:=hwf.opt.opt x (List.mem_of_getElem? hx) o h1
  rw [h2] at this; exact ⟨this.1,this.2.1⟩
 ·by_cases hne:t.put=[]
  ·rw [hne]; simp
  ·refine hput _ (fun o h1 h2 h3=>?_) hne
   have:=hwf.opt.opt x (List.mem_of_getElem? hx) o h1
   rw [h3] at this; exact this.2.2.1
 ·intro a ha
  refine hput _ (fun o h1 h2 h3=>?_) (by intro e; rw [e] at ha; simp at ha)
  have:=hwf.opt.opt x (List.mem_of_getElem? hx) o h1
  rw [h3] at this; exact this.2.2.2 a ha
theorem closed_rows (m:Rows):(eRows m).closedCells:=fun d hd=>by
 simp only [eRows,DV.cells,List.mem_singleton] at hd
 subst hd; rfl
def bK (n:Nat) (d:Dea) (c:DV):Boxes:=[(0,.cells (dvs (dcells d))),(1,.cells [.dv .nilp]),(2,.cells zF),(4,.tree 0 0 (eFrom (pD d).from_)),(5,.tree 0 0 (eStps (pD d).steps)),(6,.cells (wC d (.own 4 0 0 []) (.own 5 0 0 []) (.own 12 0 0 []))),(12,.tree 0 0 (.osl 1 ((keysF (pD d)).map I))),(13,.tree 0 0 c),(14,.cells [.ptr 6 0,.dv (I n),.own 13 0 0 []]),(15,.cells [.ptr 14 0])]
def nK (n:Nat) (d:Dea):Boxes:=[(4,.tree 0 0 (eFrom (pD d).from_)),(5,.tree 0 0 (eStps (pD d).steps)),(6,.cells (wC d (.own 4 0 0 []) (.own 5 0 0 []) (.own 12 0 0 []))),(12,.tree 0 0 (.osl 1 ((keysF (pD d)).map I))),(13,.tree 0 0 (eCon (conAt n d (disc d).order.length))),(14,.cells [.ptr 6 0,.dv (I n),.own 13 0 0 []])]
def anR:Option Fau→List AV
 | none=>[.ptr 14 0,.agg zF]
 | some f=>[.dv .nilp,.agg (dvs (eFau f).cells)]
def anK (n:Nat) (d:Dea):Option Fau→Boxes
 | none=>nK n d
 | some _=>[]
set_option maxRecDepth 100000 in
set_option maxHeartbeats 4000000 in
theorem analyse_spec (n:Nat) (d:Dea) (hs:Parts d) (hm:malf n d=none):CSpec Try.prog 31 [.dv (I n),.agg (dvs (dcells d))] 0 [] 16 (anR (anF n d)) (anK n d (anF n d)):=by
 refine cspec_of tab_ok mixed (calls_snd _) (range_snd _) Try.func31 rfl rfl (by kernel_rfl) ?_
 have hf:=faulty_spec n d hs
 rw [hm] at hf
 obtain ⟨-,hwf⟩:=malf_none hs hm
 rw [Int.toNat_natCast] at hwf
 have hsm:=small_of hs hwf
 refine .inl ⟨_,fun _=>hf.ok,(fun h=>by cases h),fun _=>?_⟩
 refine .inr ⟨[],[.agg (dvs (dcells d))],[],10,_,_,explore_spec d hwf.ne hsm,rfl,rfl,⟨⟨rf,rf,rf,tv⟩,tv⟩,tv,?_⟩
 refine ⟨intK,?_⟩
 have hb:=disc_ok d
 have hol:=hb.le
 have hsl:=hwf.sl
 have hln:=hb.len
 have hw:=wok_disc d hwf.ne
 have hfk:=fok d hwf.ne
 have hp4:=hwf.p4
 have hn64:=hwf.n64
 have hkl:(keysF (pD d)).length=(disc d).order.length:=by rw [hw.keys]
 refine ⟨Nat,fun i=>⟨16,[(0,.dv (I n)),(3,.ptr 0 0),(4,.ptr 1 0),(5,.ptr 2 0),(8,.ptr 15 0),(38,.own 12 0 0 []),(39,.dv (I (disc d).order.length)),(40,.dv (I i))],bK n d (eCon (conAt n d i))⟩,fun i=>i≤(disc d).order.length,fun i=>(disc d).order.length - i,0,(fun _=>by kernel_rfl),?_,by omega,?_⟩
 ·exact ⟨⟨rf,rfl,rfl,rfl,rfl,rfl,le_int (by simp [hkl]),rf,tv⟩,⟨subWs_dvs _ _ _ (dcells d),⟨rf,tv⟩,⟨rf,rf,rf,rf,tv⟩,⟨rfl,rfl⟩,⟨rfl,rfl⟩,⟨rf,rf,rf,rfl,rfl,rfl,tv⟩,⟨rfl,rfl⟩,⟨rfl,rfl⟩,⟨rfl,rf,rfl,tv⟩,⟨rfl,tv⟩,tv⟩,by kernel_rfl,by kernel_rfl⟩
 intro i hi1
 refine ⟨fun h=>?_,fun h=>?_⟩
 ·have hi:i<(disc d).order.length:=by
   have:(i:Int)<(disc d).order.length:=of_decide_eq_true h
   omega
  clear h
  generalize hs':(disc d).order[i]=s at *
  have hso:(disc d).order[i]?=some s:=by rw [List.getElem?_eq_getElem hi,hs']
  generalize hv':(disc d).ways[i]'(by omega)=v at *
  have hvo:(disc d).ways[i]?=some v:=by rw [List.getElem?_eq_getElem (by omega),hv']
  have hko:(keysF (pD d))[i]?=some s:=by rw [hw.keys]; exact hso
  have hcn:conAt n d (i+1)=conAt n d i++[(s,folM n d v)]:=by simp only [conAt,hso,hvo]
  have hck:s ∉ (conAt n d i).map (·.1):=by
   rw [conAt_keys n d hln]
   intro hin
   obtain ⟨j,hj⟩:=List.getElem?_of_mem hin
   have hji:j<i:=by
    have:=(List.getElem?_eq_some_iff.1 hj).1
    simp at this; omega
   rw [List.getElem?_take_of_lt hji] at hj
   have:=(List.getElem?_inj (by omega) hb.nod).1 (hj.trans hso.symm)
   omega
  have htw:=hw.tw i s v hso hvo
  refine ⟨fun _=>⟨by omega,by simp; omega⟩,I s,fun _=>by simp [hko],?_⟩
  rcases hfk.fo i s hko with ⟨hi0,hs0,hfr⟩ | ⟨hi0,k,p,st,x,hki,hkp,hp0,hfr,hst,hx,hstm,hnx⟩
  ·subst hi0; subst hs0
   refine ⟨keyT3,I 0,rfl,rfl,I (-1),true,fun _=>(by rw [mget_int (fun x=>I x),hfr]; rfl),(fun h=>by cases h),rfl,?_⟩
   refine ⟨(fun h=>by cases h),fun _=>?_⟩
   have hv0:v=[]:=by
    cases htw with
    | nil=>rfl
    | snoc h1 h2=>rw [hfr] at h1; injection h1 with h1; omega
   subst hv0
   refine ⟨.nils,⟨rf,tv⟩,by simp,by simp,by rw [by26]; simp; omega,by simp; omega,false,(fun h=>by cases h),?_⟩
   refine ⟨keyT3,I 0,rfl,rfl,.osl 1 (List.replicate d.parties.length .nils),⟨?_,tv⟩,rfl,true,(fun h=>by cases h),by kernel_rfl,?_⟩
   ·show DV.osl 1 (List.replicate ((d.parties.map DV.str).length:Int).toNat .nils)=_
    simp
   refine ⟨Nat,fun k=>⟨16,[(0,.dv (I n)),(3,.ptr 0 0),(4,.ptr 1 0),(5,.ptr 2 0),(8,.ptr 15 0),(38,.own 12 0 0 []),(39,.dv (I (disc d).order.length)),(40,.dv (I 0)),(10,.dv (I 0)),(94,.dv (I d.parties.length)),(95,.dv (I k))],bK n d (.omap intK [.ent (I 0) (.osl 1 ((zrows k n).map oRow++List.replicate (d.parties.length - k) DV.nils))])⟩,fun k=>k≤d.parties.length,fun k=>d.parties.length - k,0,(fun _=>by kernel_rfl),?_,by omega,?_⟩
   ·exact ⟨⟨rf,rfl,rfl,rfl,rfl,rfl,rf,rf,rf,le_int (by simp),rf,tv⟩,⟨subWs_dvs _ _ _ (dcells d),⟨rf,tv⟩,⟨rf,rf,rf,rf,tv⟩,⟨rfl,rfl⟩,⟨rfl,rfl⟩,⟨rf,rf,rf,rfl,rfl,rfl,tv⟩,⟨rfl,rfl⟩,⟨rfl,rfl⟩,⟨rfl,rf,rfl,tv⟩,⟨rfl,tv⟩,tv⟩,by kernel_rfl,by kernel_rfl⟩
   intro k hk1
   refine ⟨fun h=>?_,fun h=>?_⟩
   ·have hk:k<d.parties.length:=by
     have:(k:Int)<d.parties.length:=of_decide_eq_true h
     omega
    clear h
    have hrk:List.replicate (d.parties.length - k) DV.nils=DV.nils::List.replicate (d.parties.length - (k+1)) DV.nils:=by
     rw [show d.parties.length - k=(d.parties.length - (k+1))+1 by omega,List.replicate_succ]
    have htl:((zrows k n).map oRow).length=k:=by simp [zrows]
    have hq:true=true→mget [.ent (I 0) (.osl 1 ((zrows k n).map oRow++List.replicate (d.parties.length - k) DV.nils))] (I 0)=some (.osl 1 ((zrows k n).map oRow++List.replicate (d.parties.length - k) DV.nils)):=fun _=>rfl
    refine ⟨keyT3,I 0,rfl,rfl,.osl 1 ((zrows k n).map oRow++List.replicate (d.parties.length - k) DV.nils),true,hq,(fun h=>by cases h),rfl,?_⟩
    refine ⟨I 0,⟨rf,tv⟩,by omega,by omega,by rw [by22]; omega,by omega,false,(fun h=>by cases h),?_⟩
    refine ⟨.osl 1 ((zrows k n).map oRow++List.replicate (d.parties.length - k) DV.nils),hq,fun _=>⟨by omega,by simp [zrows]; omega⟩,?_⟩
    refine ⟨[oRow (List.replicate n 0)],⟨?_,tv⟩,.osl 1 ((zrows k n).map oRow++List.replicate (d.parties.length - k) DV.nils),hq,DV.nils,?_,?_⟩
    ·show DV.osl 1 (List.replicate (n:Int).toNat (I 0))=.osl 1 ((List.replicate n 0).map I)
     simp
    ·rw [Int.toNat_natCast,List.getElem?_append_right (by omega),htl,hrk]; simp
    refine ⟨.osl 1 ((zrows k n).map oRow++List.replicate (d.parties.length - k) DV.nils),hq rfl,?_⟩
    refine ⟨by kernel_rfl,fun _=>⟨by omega,by omega⟩,k+1,⟨⟨rf,rfl,rfl,rfl,rfl,rfl,rf,rf,rf,rf,le_int (by omega),tv⟩,⟨subWs_dvs _ _ _ (dcells d),⟨rf,tv⟩,⟨rf,rf,rf,rf,tv⟩,⟨rfl,rfl⟩,⟨rfl,rfl⟩,⟨rf,rf,rf,rfl,rfl,rfl,tv⟩,⟨rfl,rfl⟩,⟨rfl,?_⟩,⟨rfl,rf,rfl,tv⟩,⟨rfl,tv⟩,tv⟩,by kernel_rfl,by kernel_rfl⟩,by omega,by dsimp only; omega⟩
    show DV.omap intK [.ent (I 0) (.osl 1 (((zrows k n).map oRow++List.replicate (d.parties.length - k) DV.nils).set (k:Int).toNat (oRow (List.replicate n 0))))]=.omap intK [.ent (I 0) (.osl 1 ((zrows (k+1) n).map oRow++List.replicate (d.parties.length - (k+1)) DV.nils))]
    rw [Int.toNat_natCast,List.set_append_right _ _ (by omega),htl,hrk,Nat.sub_self,List.set_cons_zero]
    simp [zrows,List.replicate_succ']
   ·have hk:k=d.parties.length:=by
     have:¬ (k:Int)<d.parties.length:=of_decide_eq_false h
     omega
    clear h
    subst hk
    refine ⟨fun _=>⟨by omega,by omega⟩,1,⟨⟨rf,rfl,rfl,rfl,rfl,rfl,rf,le_int (by omega),tv⟩,⟨subWs_dvs _ _ _ (dcells d),⟨rf,tv⟩,⟨rf,rf,rf,rf,tv⟩,⟨rfl,rfl⟩,⟨rfl,rfl⟩,⟨rf,rf,rf,rfl,rfl,rfl,tv⟩,⟨rfl,rfl⟩,⟨rfl,?_⟩,⟨rfl,rf,rfl,tv⟩,⟨rfl,tv⟩,tv⟩,by kernel_rfl,by kernel_rfl⟩,by omega,by dsimp only; omega⟩
    rw [hcn]
    show DV.omap intK [.ent (I 0) (.osl 1 ((zrows d.parties.length n).map oRow++List.replicate (d.parties.length - d.parties.length) .nils))]=.omap intK [.ent (I 0) (.osl 1 ((zrows d.parties.length n).map oRow))]
    simp
  ·refine ⟨keyT3,I s,rfl,rfl,I p,true,fun _=>(by rw [mget_int (fun x=>I x),hfr]; rfl),(fun h=>by cases h),rfl,?_⟩
   refine ⟨fun _=>?_,fun h=>?_⟩
   ·obtain ⟨w',hw'⟩:∃w,(disc d).ways[k]?=some w:=⟨_,List.getElem?_eq_getElem (by omega)⟩
    have hkp':(disc d).order[k]?=some p:=by rw [←hw.keys]; exact hkp
    have hvv:v=w'++[st.label]:=by
     cases htw with
     | nil h1 h2=>rw [hfr] at h1; injection h1 with h1; omega
     | snoc h1 h2 h3 h4 =>
      rw [hfr] at h1; injection h1 with h1; subst h1
      rw [hst] at h3; injection h3 with h3; subst h3
      rw [h4.fn (hw.tw k _ w' hkp' hw')]
    have hlk:=conAt_look n hb (i:=i) hki hkp' hw'
    obtain ⟨hr0,q1,q2,q3⟩:=stepParts n d hwf k p w' hkp' hw' x hx st hstm
    have hpw:=leads_disc d k _ w' hkp' hw'
    have hfm:putAll (folM n d w') st.party st.put=folM n d v:=by rw [hvv,fol_step n hpw hx hstm]
    have haf:=after_spec n (by omega) _ _ hp4 hr0 st q1 q2 q3
    rw [hfm] at haf
    have hsn:s ≠ 0:=by
     intro e
     subst e
     have h00:(disc d).order[0]?=some 0:=by
      have:=hfk.fo 0 _ (List.getElem?_eq_getElem (by omega))
      rcases this with ⟨-,h,-⟩ | ⟨h,-⟩
      ·rw [←hw.keys,List.getElem?_eq_getElem (by omega),h]
      ·omega
     have:=(List.getElem?_inj (by omega) hb.nod).1 (h00.trans hso.symm)
     omega
    refine ⟨keyT3,I s,rfl,rfl,I p,true,fun _=>(by rw [mget_int (fun x=>I x),hfr]; rfl),(fun h=>by cases h),rfl,?_⟩
    by_cases hp00:p=0
    case' pos =>
     have hq:mget ((conAt n d i).map fun x=>.ent (I x.1) (cVal x.1 x.2)) (I p)=some (.osl 1 ((folM n d w').map oRow)):=by rw [mget_con,hlk,Option.map_some,cVal,if_pos hp00]
     have haf2:=after2_spec _ p n (by omega) _ _ hp4 hr0 st q1 q2 q3 hq
     rw [hfm] at haf2
     refine ⟨keyT3,I p,rfl,rfl,.osl 1 ((folM n d w').map oRow),true,fun _=>hq,(fun h=>by cases h),rfl,?_⟩
     refine ⟨keyT3,I s,rfl,rfl,eSs st,true,fun _=>(by rw [mget_int eSs,hst]; rfl),(fun h=>by cases h),rfl,?_⟩
     refine .inr ⟨[13],[.own 0 0 0 [.key (I p) 0],sA st],[(0,.tree 0 0 (eCon (conAt n d i)))],0,_,_,haf2,by kernel_rfl,by kernel_rfl,⟨rfl,⟨rf,rf,rf,rf,tv⟩,tv⟩,⟨⟨rfl,rfl⟩,tv⟩,?_⟩
    case' neg =>
     have hq:mget ((conAt n d i).map fun x=>.ent (I x.1) (cVal x.1 x.2)) (I p)=some (eRows (folM n d w')):=by rw [mget_con,hlk,Option.map_some,cVal,if_neg hp00]
     refine ⟨keyT3,I p,rfl,rfl,eRows (folM n d w'),true,fun _=>hq,(fun h=>by cases h),rfl,?_⟩
     refine ⟨keyT3,I s,rfl,rfl,eSs st,true,fun _=>(by rw [mget_int eSs,hst]; rfl),(fun h=>by cases h),rfl,?_⟩
     refine .inl ⟨_,fun _=>haf.ok,?_⟩
    all_goals
     have hgn:mget ((conAt n d i).map fun x=>.ent (I x.1) (cVal x.1 x.2)) (I s)=none:=by rw [mget_con,lookI_none hck]; rfl
     refine ⟨keyT3,I s,rfl,rfl,eRows (folM n d v),⟨rf,tv⟩,rfl,false,fun _=>⟨fun x hx=>(by rw [hgn] at hx; cases hx),closed_rows _⟩,by kernel_rfl,fun _=>⟨by omega,by omega⟩,i+1,⟨⟨rf,rfl,rfl,rfl,rfl,rfl,rf,le_int (by omega),tv⟩,⟨subWs_dvs _ _ _ (dcells d),⟨rf,tv⟩,⟨rf,rf,rf,rf,tv⟩,⟨rfl,rfl⟩,⟨rfl,rfl⟩,⟨rf,rf,rf,rfl,rfl,rfl,tv⟩,⟨rfl,rfl⟩,⟨rfl,?_⟩,⟨rfl,rf,rfl,tv⟩,⟨rfl,tv⟩,tv⟩,by kernel_rfl,by kernel_rfl⟩,by omega,by dsimp only; omega⟩
     rw [hcn]
     show DV.omap intK (mput ((conAt n d i).map fun x=>.ent (I x.1) (cVal x.1 x.2)) (I s) (eRows (folM n d v)))=.omap intK ((conAt n d i++[(s,folM n d v)]).map fun x=>.ent (I x.1) (cVal x.1 x.2))
     rw [mput_con _ _ _ hck]
     simp [cVal,hsn]
   ·exfalso
    have h:¬ (0:Int)≤p:=of_decide_eq_false h
    omega
 have hi:i=(disc d).order.length:=by
  have:¬ (i:Int)<(disc d).order.length:=of_decide_eq_false h
  omega
 clear h
 subst hi
 have hzl:((disc d).order.zip (disc d).ways).length=(disc d).order.length:=by simp [hln]
 refine ⟨Nat,fun i=>⟨16,[(0,.dv (I n)),(3,.ptr 0 0),(4,.ptr 1 0),(5,.ptr 2 0),(8,.ptr 15 0),(116,.own 12 0 0 []),(117,.dv (I (disc d).order.length)),(118,.dv (I i))],bK n d (eCon (conAt n d (disc d).order.length))⟩,fun i=>i≤(disc d).order.length∧(((disc d).order.zip (disc d).ways).take i).findSome? (stF n d)=none,fun i=>(disc d).order.length - i,0,(fun _=>by kernel_rfl),?_,⟨by omega,by simp⟩,?_⟩
 ·exact ⟨⟨rf,rfl,rfl,rfl,rfl,rfl,le_int (by simp [hkl]),rf,tv⟩,⟨subWs_dvs _ _ _ (dcells d),⟨rf,tv⟩,⟨rf,rf,rf,rf,tv⟩,⟨rfl,rfl⟩,⟨rfl,rfl⟩,⟨rf,rf,rf,rfl,rfl,rfl,tv⟩,⟨rfl,rfl⟩,⟨rfl,rfl⟩,⟨rfl,rf,rfl,tv⟩,⟨rfl,tv⟩,tv⟩,by kernel_rfl,by kernel_rfl⟩
 rintro i ⟨hi1,hi2⟩
 refine ⟨fun h=>?_,fun h=>?_⟩
 ·have hi:i<(disc d).order.length:=by
   have:(i:Int)<(disc d).order.length:=of_decide_eq_true h
   omega
  clear h
  generalize hs':(disc d).order[i]=s at *
  have hso:(disc d).order[i]?=some s:=by rw [List.getElem?_eq_getElem hi,hs']
  generalize hv':(disc d).ways[i]'(by omega)=v at *
  have hvo:(disc d).ways[i]?=some v:=by rw [List.getElem?_eq_getElem (by omega),hv']
  have hko:(keysF (pD d))[i]?=some s:=by rw [hw.keys]; exact hso
  have hrg:=hb.rng _ (List.mem_of_getElem? hso)
  have hcl:s.toNat<d.states.length:=by omega
  obtain ⟨x,hx⟩:∃x,d.states[s.toNat]?=some x:=⟨_,List.getElem?_eq_getElem hcl⟩
  have hopl:=hs.op x (List.mem_of_getElem? hx)
  have hstf:stF n d (s,v)=(stepsOf d x).findSome? (stepF n d v):=by simp [stF,hx]
  have h82:=sfSteps2_spec (rcF Try.f31) n d s v x hrg.1 hx hopl (fun t ht o ho=>by
   obtain ⟨u,hu⟩:=abF n d hwf i s v hso hvo x hx t ht
   exact abody_spec n d hwf s v t u hu o ho) _ rfl
  rw [←hstf] at h82
  refine ⟨fun _=>⟨by omega,by simp; omega⟩,I s,fun _=>by simp [hko],?_⟩
  refine .inr ⟨[],[.agg (dvs (dcells d)),.dv (I s)],[],2,_,_,sfSteps_spec d s,rfl,rfl,⟨⟨rf,rf,rf,tv⟩,rf,tv⟩,tv,?_⟩
  refine ⟨rcF Try.f31,by kernel_rfl,?_⟩
  cases hst:stF n d (s,v) with
  | none =>
   rw [hst] at h82
   refine ⟨[19,1,2,15,16,14,6,13,4,5,12,17,18],[.yld 0,.ptr 11 0,.ptr 12 0],aK (rcF Try.f31) .ready n d s zF++[(11,Box.cells (dvs (dcells d))),(12,Box.cells [AV.dv (I s)])],0,_,h82,by kernel_rfl,⟨rfl,rfl,rfl,tv⟩,?_,?_⟩
   ·exact ⟨⟨rfl,rfl,subWs_sOk (by kernel_rfl)⟩,⟨rf,tv⟩,⟨rf,rf,rf,rf,tv⟩,⟨rfl,tv⟩,⟨rf,tv⟩,⟨rfl,rf,rfl,tv⟩,⟨rf,rf,rf,rfl,rfl,rfl,tv⟩,⟨rfl,rfl⟩,⟨rfl,rfl⟩,⟨rfl,rfl⟩,⟨rfl,rfl⟩,subWs_dvs _ _ _ (dcells d),⟨rf,tv⟩,tv⟩
   rintro rs K2 ⟨rfl,rfl⟩
   refine ⟨by kernel_rfl,?_⟩
   conv=>whnf
   exact ⟨fun _=>⟨by omega,by omega⟩,i+1,⟨⟨rf,rfl,rfl,rfl,rfl,rfl,rf,le_int (by omega),tv⟩,⟨subWs_dvs _ _ _ (dcells d),⟨rf,tv⟩,⟨rf,rf,rf,rf,tv⟩,⟨rfl,rfl⟩,⟨rfl,rfl⟩,⟨rf,rf,rf,rfl,rfl,rfl,tv⟩,⟨rfl,rfl⟩,⟨rfl,rfl⟩,⟨rfl,rf,rfl,tv⟩,⟨rfl,tv⟩,tv⟩,by kernel_rfl,by kernel_rfl⟩,⟨by omega,findSome_take (zip_at hso hvo) hi2 hst⟩,by dsimp only; omega⟩
  | some f =>
   rw [hst] at h82
   have hall:anF n d=some f:=findSome_at (zip_at hso hvo) hi2 hst
   rw [hall]
   refine ⟨[19,1,2,15,16,14,6,13,4,5,12,17,18],[.yld 0,.ptr 11 0,.ptr 12 0],aK (rcF Try.f31) .ready n d s zF++[(11,Box.cells (dvs (dcells d))),(12,Box.cells [AV.dv (I s)])],0,_,h82,by kernel_rfl,⟨rfl,rfl,rfl,tv⟩,?_,?_⟩
   ·exact ⟨⟨rfl,rfl,subWs_sOk (by kernel_rfl)⟩,⟨rf,tv⟩,⟨rf,rf,rf,rf,tv⟩,⟨rfl,tv⟩,⟨rf,tv⟩,⟨rfl,rf,rfl,tv⟩,⟨rf,rf,rf,rfl,rfl,rfl,tv⟩,⟨rfl,rfl⟩,⟨rfl,rfl⟩,⟨rfl,rfl⟩,⟨rfl,rfl⟩,subWs_dvs _ _ _ (dcells d),⟨rf,tv⟩,tv⟩
   rintro rs K2 ⟨rfl,rfl⟩
   refine ⟨by kernel_rfl,?_⟩
   conv=>whnf
   exact ⟨_,_,⟨rfl,rfl⟩,by kernel_rfl,⟨rf,⟨rf,rf,rf,rf,tv⟩,tv⟩,tv⟩
 ·have hi:i=(disc d).order.length:=by
   have:¬ (i:Int)<(disc d).order.length:=of_decide_eq_false h
   omega
  clear h
  subst hi
  rw [List.take_of_length_le (by omega)] at hi2
  have hall:anF n d=none:=hi2
  rw [hall]
  exact ⟨_,_,⟨rfl,rfl⟩,by kernel_rfl,⟨rfl,⟨rf,rf,rf,rf,tv⟩,tv⟩,⟨rfl,rfl⟩,⟨rfl,rfl⟩,⟨rf,rf,rf,rfl,rfl,rfl,tv⟩,⟨rfl,rfl⟩,⟨rfl,rfl⟩,⟨rfl,rf,rfl,tv⟩,tv⟩
end Go.Proofs.Ytfcfbfkjdenpdaa
namespace Go.Proofs.Ytfcfbfkjdenpdaa
open Go.TM
def qK (n:Nat) (d:Dea) (M:List DV):Boxes:=[(0,.tree 0 0 (eFrom (pD d).from_)),(1,.tree 0 0 (eStps (pD d).steps)),(2,.cells (wC d (.own 0 0 0 []) (.own 1 0 0 []) (.own 3 0 0 []))),(3,.tree 0 0 (.osl 1 ((keysF (pD d)).map I))),(4,.tree 0 0 (.omap intK M)),(5,.cells [.ptr 2 0,.dv (I n),.own 4 0 0 []])]
set_option maxHeartbeats 4000000 in
theorem pot1_spec (n:Nat) (hn:n≤1000) (d:Dea) (M:List DV) (s:Int) (m:Rows) (p:Nat) (hp:p≤4) (hr:Rect p n 1099511627776000000 m) (hM:mget M (I s)=some (eRows m)):CSpec Try.prog 32 [.ptr 5 0,.dv (I s)] 6 (qK n d M) 0 [.dv (Ints (sumR n m))] (qK n d M):=by
 refine cspec_of tab_ok mixed (calls_snd _) (range_snd _) Try.func32 rfl rfl (by kernel_rfl) ?_
 have hq:true=true→mget M (I s)=some (eRows m):=fun _=>hM
 have hml:=hr.len
 refine ⟨I 0,⟨rf,tv⟩,by omega,by omega,by rw [by22]; omega,by omega,false,(fun h=>by cases h),?_⟩
 refine ⟨keyT3,I s,rfl,rfl,eRows m,true,hq,(fun h=>by cases h),rfl,?_⟩
 refine ⟨SuI,fun z=>⟨7,[(5,.own 6 0 0 []),(20,.dv (eRows m)),(21,.dv (I m.length)),(22,.dv (I z.p))],qK n d M++[(6,Box.tree 0 0 (.osl 1 (z.acc.map I)))]⟩,fun z=>z.p≤m.length∧z.acc=sumR n (m.take z.p)∧RowOk n (z.p * 1099511627776000000) z.acc,fun z=>m.length - z.p,⟨0,List.replicate n 0⟩,fun _=>rfl,?_,⟨by simp,by simp [sumR],⟨by simp,fun e he=>by simp at he; omega⟩⟩,?_⟩
 ·refine ⟨⟨rfl,rf,le_int (by simp),rf,tv⟩,⟨⟨rfl,rfl⟩,⟨rfl,rfl⟩,⟨rf,rf,rf,rfl,rfl,rfl,tv⟩,⟨rfl,rfl⟩,⟨rfl,rfl⟩,⟨rfl,rf,rfl,tv⟩,⟨rfl,?_⟩,tv⟩,rfl,rfl⟩
  show DV.osl 1 (List.replicate (n:Int).toNat (I 0))=.osl 1 ((List.replicate n 0).map I)
  simp
 rintro ⟨q,acc⟩ ⟨hq1,hq2,hq3⟩
 dsimp only at hq1 hq2 hq3
 refine ⟨fun h=>?_,fun h=>?_⟩
 ·have hql:q<m.length:=by
   have:(q:Int)<m.length:=of_decide_eq_true h
   omega
  clear h
  generalize hr':m[q]=r at *
  have hro:m[q]?=some r:=by rw [List.getElem?_eq_getElem hql,hr']
  have hrk:=hr.at (List.mem_of_getElem? hro)
  have hle:acc.length=r.length:=by rw [hq3.len,hrk.len]
  have hal:=hq3.len
  have hrl:=hrk.len
  refine ⟨Ints r,fun _=>⟨by dsimp only; omega,by simp [hro]⟩,?_⟩
  refine ⟨SvI,fun z=>⟨7,[(5,.own 6 0 0 []),(20,.dv (eRows m)),(21,.dv (I m.length)),(22,.dv (I q)),(26,.dv (Ints r)),(27,.dv (I n)),(28,.dv (I z.i))],qK n d M++[(6,Box.tree 0 0 (.osl 1 (z.cur.map I)))]⟩,fun z=>z.i≤n∧z.cur=addTo acc r z.i,fun z=>n - z.i,⟨0,acc⟩,fun _=>rfl,?_,⟨by simp,by rw [addTo_zero]⟩,?_⟩
  ·exact ⟨⟨rfl,rf,rf,rf,rf,le_int (by simp [hrl]),rf,tv⟩,⟨⟨rfl,rfl⟩,⟨rfl,rfl⟩,⟨rf,rf,rf,rfl,rfl,rfl,tv⟩,⟨rfl,rfl⟩,⟨rfl,rfl⟩,⟨rfl,rf,rfl,tv⟩,⟨rfl,rfl⟩,tv⟩,rfl,rfl⟩
  rintro ⟨i,cur⟩ ⟨hi1,hi2⟩
  dsimp only at hi1 hi2
  refine ⟨fun h=>?_,fun h=>?_⟩
  ·have hi:i<n:=by
    have:(i:Int)<n:=of_decide_eq_true h
    omega
   clear h
   obtain ⟨e,he⟩:∃e,acc[i]?=some e:=⟨_,List.getElem?_eq_getElem (by omega)⟩
   obtain ⟨f,hf⟩:∃f,r[i]?=some f:=⟨_,List.getElem?_eq_getElem (by omega)⟩
   have hb1:=hq3.bd e (List.mem_of_getElem? he)
   have hb2:=hrk.bd f (List.mem_of_getElem? hf)
   have hc:=addTo_at hle he
   have hcs:=addTo_set hle he hf
   have hcl:=addTo_len hle i (by omega)
   rw [←hi2] at hc hcs hcl
   refine ⟨I f,fun _=>⟨by omega,by simp [hf]⟩,?_⟩
   refine ⟨fun _=>⟨by omega,by simp; omega⟩,I e,fun _=>by simp [hc],fun _=>⟨by omega,by omega⟩,?_⟩
   refine ⟨fun _=>⟨by omega,by simp; omega⟩,[I (e+f)],⟨rf,tv⟩,I e,by simp [hc],?_⟩
   refine ⟨fun _=>⟨by dsimp only; omega,by dsimp only; omega⟩,⟨i+1,cur.set i (e+f)⟩,⟨⟨rfl,rf,rf,rf,rf,rf,le_int (by simp),tv⟩,⟨⟨rfl,rfl⟩,⟨rfl,rfl⟩,⟨rf,rf,rf,rfl,rfl,rfl,tv⟩,⟨rfl,rfl⟩,⟨rfl,rfl⟩,⟨rfl,rf,rfl,tv⟩,⟨rfl,?_⟩,tv⟩,rfl,rfl⟩,⟨by dsimp only; omega,hcs⟩,by dsimp only; omega⟩
   show DV.osl 1 ((cur.map I).set (i:Int).toNat (I (e+f)))=.osl 1 ((cur.set i (e+f)).map I)
   rw [List.map_set]; rfl
  ·have hi:i=n:=by
    have:¬ (i:Int)<n:=of_decide_eq_false h
    omega
   clear h
   subst hi
   rw [←hq3.len,addTo_end hle] at hi2
   refine ⟨fun _=>⟨by omega,by omega⟩,⟨q+1,cur⟩,⟨⟨rfl,rf,rf,le_int (by simp),tv⟩,⟨⟨rfl,rfl⟩,⟨rfl,rfl⟩,⟨rf,rf,rf,rfl,rfl,rfl,tv⟩,⟨rfl,rfl⟩,⟨rfl,rfl⟩,⟨rfl,rf,rfl,tv⟩,⟨rfl,rfl⟩,tv⟩,rfl,rfl⟩,⟨by dsimp only; omega,?_,?_⟩,by dsimp only; omega⟩
   ·dsimp only
    rw [List.take_add_one,hro,sumR,List.foldl_append]
    show cur=addRow (sumR _ (m.take q)) r
    rw [←hq2,hi2]
   ·dsimp only
    rw [hi2]
    have:=rowOk_add hq3 hrk
    exact ⟨this.len,fun e he=>by have:=this.bd e he; omega⟩
 ·have hql:q=m.length:=by
   have:¬ (q:Int)<m.length:=of_decide_eq_false h
   omega
  clear h
  subst hql
  rw [List.take_length] at hq2
  refine ⟨_,_,⟨rfl,rfl⟩,by kernel_rfl,⟨DV.Le.of_eq ?_,tv⟩,⟨rfl,rfl⟩,⟨rfl,rfl⟩,⟨rf,rf,rf,rfl,rfl,rfl,tv⟩,⟨rfl,rfl⟩,⟨rfl,rfl⟩,⟨rfl,rf,rfl,tv⟩,tv⟩
  show DV.sl 1 (fzL (acc.map I))=_
  rw [fzL_map fun _=>rfl,hq2]
set_option maxHeartbeats 4000000 in
theorem pot0_spec (n:Nat) (hn:n≤1000) (d:Dea) (M:List DV) (s:Int) (m:Rows) (p:Nat) (hp:p≤4) (hr:Rect p n 1099511627776000000 m) (hM:mget M (I s)=some (.osl 1 (m.map oRow))):CSpec Try.prog 32 [.ptr 5 0,.dv (I s)] 6 (qK n d M) 0 [.dv (Ints (sumR n m))] (qK n d M):=by
 refine cspec_of tab_ok mixed (calls_snd _) (range_snd _) Try.func32 rfl rfl (by kernel_rfl) ?_
 have hq:true=true→mget M (I s)=some (.osl 1 (m.map oRow)):=fun _=>hM
 have hml:=hr.len
 refine ⟨I 0,⟨rf,tv⟩,by omega,by omega,by rw [by22]; omega,by omega,false,(fun h=>by cases h),?_⟩
 refine ⟨keyT3,I s,rfl,rfl,.osl 1 (m.map oRow),true,hq,(fun h=>by cases h),rfl,?_⟩
 refine ⟨.osl 1 (m.map oRow),hq,?_⟩
 refine ⟨SuI,fun z=>⟨7,[(5,.own 6 0 0 []),(20,.own 4 0 0 [.key (I s) 0]),(21,.dv (I m.length)),(22,.dv (I z.p))],qK n d M++[(6,Box.tree 0 0 (.osl 1 (z.acc.map I)))]⟩,fun z=>z.p≤m.length∧z.acc=sumR n (m.take z.p)∧RowOk n (z.p * 1099511627776000000) z.acc,fun z=>m.length - z.p,⟨0,List.replicate n 0⟩,fun _=>rfl,?_,⟨by simp,by simp [sumR],⟨by simp,fun e he=>by simp at he; omega⟩⟩,?_⟩
 ·refine ⟨⟨rfl,rfl,le_int (by simp),rf,tv⟩,⟨⟨rfl,rfl⟩,⟨rfl,rfl⟩,⟨rf,rf,rf,rfl,rfl,rfl,tv⟩,⟨rfl,rfl⟩,⟨rfl,rfl⟩,⟨rfl,rf,rfl,tv⟩,⟨rfl,?_⟩,tv⟩,rfl,rfl⟩
  show DV.osl 1 (List.replicate (n:Int).toNat (I 0))=.osl 1 ((List.replicate n 0).map I)
  simp
 rintro ⟨q,acc⟩ ⟨hq1,hq2,hq3⟩
 dsimp only at hq1 hq2 hq3
 refine ⟨fun h=>?_,fun h=>?_⟩
 ·have hql:q<m.length:=by
   have:(q:Int)<m.length:=of_decide_eq_true h
   omega
  clear h
  generalize hr':m[q]=r at *
  have hro:m[q]?=some r:=by rw [List.getElem?_eq_getElem hql,hr']
  have hrk:=hr.at (List.mem_of_getElem? hro)
  have hle:acc.length=r.length:=by rw [hq3.len,hrk.len]
  have hal:=hq3.len
  have hrl:=hrk.len
  have hro2:true=true→(m.map oRow)[q]?=some (oRow r):=fun _=>by simp [hro]
  refine ⟨.osl 1 (m.map oRow),hq,fun _=>⟨by dsimp only; omega,by dsimp only; simp; omega⟩,.osl 1 (m.map oRow),hq,oRow r,fun _=>by simp [hro],?_⟩
  refine ⟨.osl 1 (m.map oRow),hq,oRow r,fun _=>by simp [hro],?_⟩
  refine ⟨SvI,fun z=>⟨7,[(5,.own 6 0 0 []),(20,.own 4 0 0 [.key (I s) 0]),(21,.dv (I m.length)),(22,.dv (I q)),(26,.own 4 0 0 [.key (I s) 0,.el q 0]),(27,.dv (I n)),(28,.dv (I z.i))],qK n d M++[(6,Box.tree 0 0 (.osl 1 (z.cur.map I)))]⟩,fun z=>z.i≤n∧z.cur=addTo acc r z.i,fun z=>n - z.i,⟨0,acc⟩,fun _=>rfl,?_,⟨by simp,by rw [addTo_zero]⟩,?_⟩
  ·exact ⟨⟨rfl,rfl,rf,rf,rfl,le_int (by simp [hrl]),rf,tv⟩,⟨⟨rfl,rfl⟩,⟨rfl,rfl⟩,⟨rf,rf,rf,rfl,rfl,rfl,tv⟩,⟨rfl,rfl⟩,⟨rfl,rfl⟩,⟨rfl,rf,rfl,tv⟩,⟨rfl,rfl⟩,tv⟩,rfl,rfl⟩
  rintro ⟨i,cur⟩ ⟨hi1,hi2⟩
  dsimp only at hi1 hi2
  refine ⟨fun h=>?_,fun h=>?_⟩
  ·have hi:i<n:=by
    have:(i:Int)<n:=of_decide_eq_true h
    omega
   clear h
   obtain ⟨e,he⟩:∃e,acc[i]?=some e:=⟨_,List.getElem?_eq_getElem (by omega)⟩
   obtain ⟨f,hf⟩:∃f,r[i]?=some f:=⟨_,List.getElem?_eq_getElem (by omega)⟩
   have hb1:=hq3.bd e (List.mem_of_getElem? he)
   have hb2:=hrk.bd f (List.mem_of_getElem? hf)
   have hc:=addTo_at hle he
   have hcs:=addTo_set hle he hf
   have hcl:=addTo_len hle i (by omega)
   rw [←hi2] at hc hcs hcl
   refine ⟨.osl 1 (m.map oRow),hq,oRow r,hro2,fun _=>⟨by omega,by simp; omega⟩,.osl 1 (m.map oRow),hq,oRow r,hro2,I f,fun _=>by simp [hf],?_⟩
   refine ⟨fun _=>⟨by omega,by simp; omega⟩,I e,fun _=>by simp [hc],fun _=>⟨by omega,by omega⟩,?_⟩
   refine ⟨fun _=>⟨by omega,by simp; omega⟩,[I (e+f)],⟨rf,tv⟩,I e,by simp [hc],?_⟩
   refine ⟨fun _=>⟨by dsimp only; omega,by dsimp only; omega⟩,⟨i+1,cur.set i (e+f)⟩,⟨⟨rfl,rfl,rf,rf,rfl,rf,le_int (by simp),tv⟩,⟨⟨rfl,rfl⟩,⟨rfl,rfl⟩,⟨rf,rf,rf,rfl,rfl,rfl,tv⟩,⟨rfl,rfl⟩,⟨rfl,rfl⟩,⟨rfl,rf,rfl,tv⟩,⟨rfl,?_⟩,tv⟩,rfl,rfl⟩,⟨by dsimp only; omega,hcs⟩,by dsimp only; omega⟩
   show DV.osl 1 ((cur.map I).set (i:Int).toNat (I (e+f)))=.osl 1 ((cur.set i (e+f)).map I)
   rw [List.map_set]; rfl
  ·have hi:i=n:=by
    have:¬ (i:Int)<n:=of_decide_eq_false h
    omega
   clear h
   subst hi
   rw [←hq3.len,addTo_end hle] at hi2
   refine ⟨fun _=>⟨by omega,by omega⟩,⟨q+1,cur⟩,⟨⟨rfl,rfl,rf,le_int (by simp),tv⟩,⟨⟨rfl,rfl⟩,⟨rfl,rfl⟩,⟨rf,rf,rf,rfl,rfl,rfl,tv⟩,⟨rfl,rfl⟩,⟨rfl,rfl⟩,⟨rfl,rf,rfl,tv⟩,⟨rfl,rfl⟩,tv⟩,rfl,rfl⟩,⟨by dsimp only; omega,?_,?_⟩,by dsimp only; omega⟩
   ·dsimp only
    rw [List.take_add_one,hro,sumR,List.foldl_append]
    show cur=addRow (sumR _ (m.take q)) r
    rw [←hq2,hi2]
   ·dsimp only
    rw [hi2]
    have:=rowOk_add hq3 hrk
    exact ⟨this.len,fun e he=>by have:=this.bd e he; omega⟩
 ·have hql:q=m.length:=by
   have:¬ (q:Int)<m.length:=of_decide_eq_false h
   omega
  clear h
  subst hql
  rw [List.take_length] at hq2
  refine ⟨_,_,⟨rfl,rfl⟩,by kernel_rfl,⟨DV.Le.of_eq ?_,tv⟩,⟨rfl,rfl⟩,⟨rfl,rfl⟩,⟨rf,rf,rf,rfl,rfl,rfl,tv⟩,⟨rfl,rfl⟩,⟨rfl,rfl⟩,⟨rfl,rf,rfl,tv⟩,tv⟩
  show DV.sl 1 (fzL (acc.map I))=_
  rw [fzL_map fun _=>rfl,hq2]
def conM (n:Nat) (d:Dea):List DV:=(conAt n d (disc d).order.length).map fun x=>.ent (I x.1) (cVal x.1 x.2)
theorem pot_spec (n:Nat) (d:Dea) (hwf:WF n d) (i:Nat) (s:Int) (v:List Int) (hso:(disc d).order[i]?=some s) (hvo:(disc d).ways[i]?=some v):CSpec Try.prog 32 [.ptr 5 0,.dv (I s)] 6 (qK n d (conM n d)) 0 [.dv (Ints (sumR n (folM n d v)))] (qK n d (conM n d)):=by
 have hb:=disc_ok d
 have hvl:=way_len (wayOf_at d hso hvo)
 have hsl:=hwf.sl
 have hn64:=hwf.n64
 have hra:=rect_folM hwf.opt (leads_disc d i _ v hso hvo) (by omega)
 have hg:mget (conM n d) (I s)=some (cVal s (folM n d v)):=by
  unfold conM
  rw [mget_con,conAt_look n hb (List.getElem?_eq_some_iff.1 hso).1 hso hvo]; rfl
 by_cases hs:s=0
 ·rw [cVal,if_pos hs] at hg
  exact pot0_spec n (by omega) d _ s _ _ hwf.p4 hra hg
 ·rw [cVal,if_neg hs] at hg
  exact pot1_spec n (by omega) d _ s _ _ hwf.p4 hra hg
end Go.Proofs.Ytfcfbfkjdenpdaa
namespace Go.Proofs.Ytfcfbfkjdenpdaa
open Go.TM
theorem anF_code {n:Nat} {d:Dea} {f:Fau} (h:anF n d=some f):f.code=17:=by
 unfold anF at h
 obtain ⟨z,-,h⟩:=List.exists_of_findSome?_eq_some h
 unfold stF at h
 split at h
 ·cases h
 ·obtain ⟨t,-,h⟩:=List.exists_of_findSome?_eq_some h
  unfold stepF at h
  split at h
  ·injection h with h; rw [←h]
  ·cases h
end Go.Proofs.Ytfcfbfkjdenpdaa
