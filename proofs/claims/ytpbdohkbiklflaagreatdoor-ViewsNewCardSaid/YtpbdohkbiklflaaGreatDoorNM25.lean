import Derived.Test.YtpbdohkbiklflaaGreatDoorNM24
set_option linter.unusedVariables false
set_option linter.unusedSimpArgs false
set_option linter.unusedSectionVars false
namespace Go.Proofs.YtpbdohkbiklflaaGreatDoor
open Go.TM
variable [KObj]
set_option maxRecDepth 100000
def hold (m h:HM) (k:Ky):Int:=(hget m k).getD (hv h k)
def kHa (s:Vs) (m:HM):Boxes:=vK false s++[(6,.cells [.ptr 0 0]),(7,.tree 0 0 (.omap pairK (m.map eHe))),(8,.cells [.own 7 0 0 []])]
theorem hg_ky (m:HM) (k:Ky):mget (m.map eHe) (eKy k)=bif (hget m k).isSome then some (I (hv m k)) else none:=by
 rw [mget_h]; unfold hv; cases hget m k <;> rfl
theorem hz_ky (m:HM) (k:Ky) (h9:(hget m k).isSome=false):I (hv m k)=I 0:=by
 unfold hv
 cases hq:hget m k with
 | none=>rfl
 | some x=>rw [hq] at h9; cases h9
set_option maxHeartbeats 4000000 in
theorem holdc_spec (s:Vs) (m:HM) (k:Ky):CSpec Tryz.prog 113 [.agg [.dv (I k.1),.dv (I k.2)],.ptr 8 0,.ptr 6 0] 9 (kHa s m) 0 [.dv (I (hold m s.H k))] (kHa s m):=by
 refine cspec_of tab_ok mixed (calls_snd _) (range_snd _) Tryz.func113 rfl rfl (by kernel_rfl) ?_
 refine ⟨keyT_ky,eKy k,rfl,rfl,I (hv m k),(hget m k).isSome,fun _=>hg_ky m k,hz_ky m k,rfl,?_⟩
 refine ⟨fun hs=>?_,fun hn=>?_⟩
 ·have hh:hold m s.H k=hv m k:=by
   unfold hold hv; cases hq:hget m k with
   | none=>rw [hq] at hs; cases hs
   | some x=>rfl
  rw [hh]
  exact ⟨_,_,⟨rfl,rfl⟩,by kernel_rfl,⟨rf,tv⟩,⟨rf,rf,rf,rf,rf,rf,rfl,rfl,rfl,rfl,rfl,tv⟩,⟨rfl,rfl⟩,⟨rfl,rfl⟩,⟨rfl,rfl⟩,⟨rfl,rfl⟩,⟨rfl,rfl⟩,⟨rfl,tv⟩,⟨rfl,rfl⟩,⟨rfl,tv⟩,tv⟩
 ·have hh:hold m s.H k=hv s.H k:=by
   unfold hold; cases hq:hget m k with
   | none=>rfl
   | some x=>rw [hq] at hn; cases hn
  rw [hh]
  refine ⟨keyT_ky,eKy k,rfl,rfl,I (hv s.H k),(hget s.H k).isSome,fun _=>hg_ky s.H k,hz_ky s.H k,rfl,?_⟩
  exact ⟨by kernel_rfl,_,_,⟨rfl,rfl⟩,by kernel_rfl,⟨rf,tv⟩,⟨rf,rf,rf,rf,rf,rf,rfl,rfl,rfl,rfl,rfl,tv⟩,⟨rfl,rfl⟩,⟨rfl,rfl⟩,⟨rfl,rfl⟩,⟨rfl,rfl⟩,⟨rfl,rfl⟩,⟨rfl,tv⟩,⟨rfl,rfl⟩,⟨rfl,tv⟩,tv⟩
def badMv (v:Mv):Bool:=bif bif bif bif bif bif decide (v.it<0) then true else decide (4≤v.it) then true else decide (v.n<1) then true else decide (1099511627776<v.n) then true else !isAcc v.f then true else !isAcc v.t then true else decide (v.f=v.t)
theorem bad_f {v:Mv} (h:badMv v=false):0≤v.it∧v.it<4∧1≤v.n∧v.n≤1099511627776∧isAcc v.f=true∧isAcc v.t=true∧v.f ≠ v.t:=by
 unfold badMv at h
 simp only [Bool.cond_true_left,Bool.or_eq_false_iff,decide_eq_false_iff_not,Bool.not_eq_false'] at h
 obtain ⟨⟨⟨⟨⟨⟨h1,h2⟩,h3⟩,h4⟩,h5⟩,h6⟩,h7⟩:=h
 exact ⟨by omega,by omega,by omega,by omega,h5,h6,h7⟩
inductive HaR where
 | err (e:Int)
 | ok (m:HM)
def haM (H:HM):HM→List Mv→HaR
 | m,[]=>.ok m
 | m,v::r =>
  if badMv v=true then .err 1 else
  if v.f ≠ 0 then
   if hold m H (v.f,v.it)<v.n then .err 10 else
   let m1:=hput m (v.f,v.it) (hold m H (v.f,v.it) - v.n)
   haM H (if v.t ≠ 0 then hput m1 (v.t,v.it) (hold m1 H (v.t,v.it)+v.n) else m1) r
  else haM H (if v.t ≠ 0 then hput m (v.t,v.it) (hold m H (v.t,v.it)+v.n) else m) r
def HaR.rs:HaR→List AV
 | .err e=>[.dv .nilm,.dv (I e)]
 | .ok _=>[.own 7 0 0 [],.dv (I 0)]
def HaR.K:HaR→Boxes
 | .err _=>[]
 | .ok m=>[(7,.tree 0 0 (.omap pairK (m.map eHe)))]
theorem hget_hput (m:HM) (k:Ky) (x:Int) (j:Ky):hget (hput m k x) j=if k=j then some x else hget m j:=by
 induction m with
 | nil=>simp only [hput,hget]
 | cons p r ih =>
  simp only [hput]
  by_cases h:p.1=k
  ·simp only [h,if_true,hget]
   by_cases h2:k=j
   ·simp [h2]
   ·simp [h2]
  ·simp only [h,if_false,hget]
   by_cases h2:p.1=j
   ·have:k ≠ j:=fun h3=>h (h2.trans h3.symm)
    simp [h2,this]
   ·simp only [h2,if_false]
    exact ih
theorem hold_hput (m h:HM) (k:Ky) (x:Int) (j:Ky):hold (hput m k x) h j=if k=j then x else hold m h j:=by
 unfold hold; rw [hget_hput]; split <;> rfl
theorem upd_ok (m:HM) (k:Ky) (x:Int):(∀z,mget (m.map eHe) (eKy k)=some z→z.closedCells)∧(I x).closedCells:=by
 constructor
 ·intro z hz' d hd
  rw [hg_ky] at hz'
  cases hk:(hget m k).isSome with
  | false=>rw [hk] at hz'; cases hz'
  | true=>rw [hk] at hz'; injection hz' with hz'; subst hz'; simp [DV.cells] at hd; subst hd; rfl
 ·intro d hd
  simp [DV.cells] at hd; subst hd; rfl
theorem hb_put {m h:HM} {k:Ky} {x B C:Int} (hB:∀k,0≤hold m h k∧hold m h k≤B) (hx:0≤x∧x≤C) (hBC:B≤C) (j:Ky):0≤hold (hput m k x) h j∧hold (hput m k x) h j≤C:=by
 rw [hold_hput]; have:=hB j; split <;> omega
structure HaI where
 m:HM
 j:Nat
def haInv (s:Vs) (l:List Mv) (x:HaI):AState:=⟨9,[(0,.ptr 0 0),(1,.dv (eMvs l)),(2,.ptr 6 0),(4,.dv .nilm),(5,.dv (I 0)),(6,.ptr 8 0),(7,.fn 113 [.ptr 8 0,.ptr 6 0]),(14,.dv (eMvs l)),(15,.dv (I l.length)),(16,.dv (I x.j))],kHa s x.m⟩
set_option maxHeartbeats 4000000 in
theorem ha_spec (s:Vs) (l:List Mv) (hl:l.length≤1000) (hH:∀k,0≤hv s.H k∧hv s.H k≤1152921504606846976):CSpec Tryz.prog 50 [.ptr 0 0,.dv (eMvs l)] 6 (vK false s) 2 (haM s.H [] l).rs (vK false s++(haM s.H [] l).K):=by
 refine cspecXX_of tab_ok mixed (calls_snd _) (range_snd _) Tryz.func50 rfl rfl (by kernel_rfl) ?_
 refine ⟨pairK,HaI,haInv s l,fun x=>x.j≤l.length∧haM s.H [] l=haM s.H x.m (l.drop x.j)∧∀k,0≤hold x.m s.H k∧hold x.m s.H k≤1152921504606846976+x.j * 1099511627776,fun x=>l.length - x.j,⟨[],0⟩,fun _=>rfl,⟨⟨rfl,rf,rfl,rf,rf,rfl,⟨rfl,rfl,rfl,tv⟩,rf,le_int (by rw [List.length_map]),rf,tv⟩,⟨⟨rf,rf,rf,rf,rf,rf,rfl,rfl,rfl,rfl,rfl,tv⟩,⟨rfl,rfl⟩,⟨rfl,rfl⟩,⟨rfl,rfl⟩,⟨rfl,rfl⟩,⟨rfl,rfl⟩,⟨rfl,tv⟩,⟨rfl,rfl⟩,⟨rfl,tv⟩,tv⟩,rfl,rfl⟩,⟨Nat.zero_le _,rfl,fun k=>?_⟩,?_⟩
 ·have:=hH k
  show 0≤hv s.H k∧hv s.H k≤_
  simp only; omega
 rintro ⟨m,j⟩ ⟨p1,p2,p3⟩
 simp only at p1 p2 p3
 refine ⟨fun hlt=>?_,fun hge=>?_⟩
 ·have hlt:j<l.length:=by have:=of_decide_eq_true hlt; simp only [Int.ofNat_lt] at this; omega
  obtain ⟨v,hv'⟩:∃v,l[j]?=some v:=⟨_,List.getElem?_eq_getElem hlt⟩
  have hve:(l.map eMv)[((j:Int)).toNat]?=some (eMv v):=by rw [List.getElem?_map,Int.toNat_natCast,hv']; rfl
  have hdr:l.drop j=v::l.drop (j+1):=by rw [List.drop_eq_getElem_cons hlt]; congr 1; rw [List.getElem?_eq_getElem hlt] at hv'; injection hv'
  refine ⟨eMv v,fun _=>⟨by simp only; omega,hve⟩,?_⟩
  repeat first | refine ⟨id,?_⟩ | refine ⟨fun _ h=>bw_f h,?_⟩ | refine ⟨fun _ h=>bw_t h,?_⟩ | refine ⟨fun h=>⟨h,fun h2=>bw_and h h2⟩,?_⟩ | refine ⟨fun h=>⟨h,fun h2=>bw_andf h h2⟩,?_⟩
  refine (.inl ⟨_,fun _=>(isAcc_spec v.f).ok,?_⟩)
  repeat first | refine ⟨id,?_⟩ | refine ⟨fun _ h=>bw_f h,?_⟩ | refine ⟨fun _ h=>bw_t h,?_⟩ | refine ⟨fun h=>⟨h,fun h2=>bw_and h h2⟩,?_⟩ | refine ⟨fun h=>⟨h,fun h2=>bw_andf h h2⟩,?_⟩
  refine (.inl ⟨_,fun _=>(isAcc_spec v.t).ok,?_⟩)
  repeat first | refine ⟨id,?_⟩ | refine ⟨fun _ h=>bw_f h,?_⟩ | refine ⟨fun _ h=>bw_t h,?_⟩ | refine ⟨fun h=>⟨h,fun h2=>bw_and h h2⟩,?_⟩ | refine ⟨fun h=>⟨h,fun h2=>bw_andf h h2⟩,?_⟩
  refine .inl ⟨by kernel_rfl,fun hc=>?_,fun hc=>?_⟩
  ·have hbad:badMv v=true:=hc
   have hr:haM s.H [] l=.err 1:=by rw [p2,hdr]; simp only [haM,hbad,if_true]
   rw [hr]
   exact ⟨_,_,⟨rfl,rfl⟩,by kernel_rfl,⟨rf,rf,tv⟩,⟨rf,rf,rf,rf,rf,rf,rfl,rfl,rfl,rfl,rfl,tv⟩,⟨rfl,rfl⟩,⟨rfl,rfl⟩,⟨rfl,rfl⟩,⟨rfl,rfl⟩,⟨rfl,rfl⟩,tv⟩
  have hbad:badMv v=false:=hc
  have hb2:1≤v.n∧v.n≤1099511627776∧v.f ≠ v.t:=by
   have:=bad_f hbad; exact ⟨this.2.2.1,this.2.2.2.1,this.2.2.2.2.2.2⟩
  refine ⟨fun hf=>?_,fun hf=>?_⟩
  ·have hf:v.f ≠ 0:=by simpa using hf
   refine .inr ⟨[0,1,2,3,4,5,6,7,8],[.agg [.dv (I v.f),.dv (I v.it)],.ptr 8 0,.ptr 6 0],kHa s m,0,_,_,holdc_spec s m (v.f,v.it),by kernel_rfl,by kernel_rfl,⟨⟨rf,rf,tv⟩,rfl,rfl,tv⟩,⟨⟨rf,rf,rf,rf,rf,rf,rfl,rfl,rfl,rfl,rfl,tv⟩,⟨rfl,rfl⟩,⟨rfl,rfl⟩,⟨rfl,rfl⟩,⟨rfl,rfl⟩,⟨rfl,rfl⟩,⟨rfl,tv⟩,⟨rfl,rfl⟩,⟨rfl,tv⟩,tv⟩,?_⟩
   refine .inl ⟨by kernel_rfl,fun hs=>?_,fun hs=>?_⟩
   ·have hs:hold m s.H (v.f,v.it)<v.n:=of_decide_eq_true hs
    have hr:haM s.H [] l=.err 10:=by rw [p2,hdr]; simp only [haM,hbad]; simp [hf,hs]
    rw [hr]
    exact ⟨_,_,⟨rfl,rfl⟩,by kernel_rfl,⟨rf,rf,tv⟩,⟨rf,rf,rf,rf,rf,rf,rfl,rfl,rfl,rfl,rfl,tv⟩,⟨rfl,rfl⟩,⟨rfl,rfl⟩,⟨rfl,rfl⟩,⟨rfl,rfl⟩,⟨rfl,rfl⟩,tv⟩
   have hs:¬ hold m s.H (v.f,v.it)<v.n:=of_decide_eq_false hs
   have hBf:=p3 (v.f,v.it)
   refine .inr ⟨[0,1,2,3,4,5,6,7,8],[.agg [.dv (I v.f),.dv (I v.it)],.ptr 8 0,.ptr 6 0],kHa s (m),0,_,_,holdc_spec s (m) (v.f,v.it),by kernel_rfl,by kernel_rfl,⟨⟨rf,rf,tv⟩,rfl,rfl,tv⟩,⟨⟨rf,rf,rf,rf,rf,rf,rfl,rfl,rfl,rfl,rfl,tv⟩,⟨rfl,rfl⟩,⟨rfl,rfl⟩,⟨rfl,rfl⟩,⟨rfl,rfl⟩,⟨rfl,rfl⟩,⟨rfl,tv⟩,⟨rfl,rfl⟩,⟨rfl,tv⟩,tv⟩,?_⟩
   refine ⟨fun _=>⟨by omega,by omega⟩,?_⟩
   refine ⟨keyT_ky,eKy (v.f,v.it),rfl,rfl,I (hold m s.H (v.f,v.it) - v.n),⟨rf,tv⟩,rfl,false,fun _=>upd_ok m (v.f,v.it) _,.inr ⟨[(0,4)],by kernel_rfl,softQ_x (pol:=pol1) (by kernel_rfl) (by kernel_rfl),?_⟩⟩
   have hM:haM s.H [] l=haM s.H (if v.t ≠ 0 then hput (hput m (v.f,v.it) (hold m s.H (v.f,v.it) - v.n)) (v.t,v.it) (hold (hput m (v.f,v.it) (hold m s.H (v.f,v.it) - v.n)) s.H (v.t,v.it)+v.n) else hput m (v.f,v.it) (hold m s.H (v.f,v.it) - v.n)) (l.drop (j+1)):=by
    rw [p2,hdr]; simp only [haM,hbad]; simp [hf,hs]
   have hB:∀k,0≤hold (hput m (v.f,v.it) (hold m s.H (v.f,v.it) - v.n)) s.H k∧hold (hput m (v.f,v.it) (hold m s.H (v.f,v.it) - v.n)) s.H k≤1152921504606846976+(j:Int) * 1099511627776:=by
    intro k
    rw [hold_hput]; have:=p3 k; split <;> omega
   refine ⟨fun ht=>?_,fun ht=>?_⟩
   ·have ht:v.t ≠ 0:=by simpa using ht
    have hMM:=hM
    rw [if_pos ht] at hMM
    have hBt:=hB (v.t,v.it)
    refine .inr ⟨[0,1,2,3,4,5,6,7,8],[.agg [.dv (I v.t),.dv (I v.it)],.ptr 8 0,.ptr 6 0],kHa s (hput m (v.f,v.it) (hold m s.H (v.f,v.it) - v.n)),0,_,_,holdc_spec s (hput m (v.f,v.it) (hold m s.H (v.f,v.it) - v.n)) (v.t,v.it),by kernel_rfl,by kernel_rfl,⟨⟨rf,rf,tv⟩,rfl,rfl,tv⟩,⟨⟨rf,rf,rf,rf,rf,rf,rfl,rfl,rfl,rfl,rfl,tv⟩,⟨rfl,rfl⟩,⟨rfl,rfl⟩,⟨rfl,rfl⟩,⟨rfl,rfl⟩,⟨rfl,rfl⟩,⟨rfl,tv⟩,⟨rfl,by rw [mput_h]⟩,⟨rfl,tv⟩,tv⟩,?_⟩
    refine ⟨fun _=>⟨by omega,by omega⟩,?_⟩
    refine ⟨keyT_ky,eKy (v.t,v.it),rfl,rfl,I (hold (hput m (v.f,v.it) (hold m s.H (v.f,v.it) - v.n)) s.H (v.t,v.it)+v.n),⟨rf,tv⟩,rfl,false,fun _=>?_,.inr ⟨[(0,4)],by kernel_rfl,softQ_x (pol:=pol1) (by kernel_rfl) (by kernel_rfl),?_⟩⟩
    ·exact upd_ok (hput m (v.f,v.it) (hold m s.H (v.f,v.it) - v.n)) (v.t,v.it) _
    refine ⟨fun _=>⟨by simp only; omega,by simp only; omega⟩,⟨hput (hput m (v.f,v.it) (hold m s.H (v.f,v.it) - v.n)) (v.t,v.it) (hold (hput m (v.f,v.it) (hold m s.H (v.f,v.it) - v.n)) s.H (v.t,v.it)+v.n),j+1⟩,⟨⟨rfl,rf,rfl,rf,rf,rfl,⟨rfl,rfl,rfl,tv⟩,rf,rf,le_int (by simp),tv⟩,⟨⟨rf,rf,rf,rf,rf,rf,rfl,rfl,rfl,rfl,rfl,tv⟩,⟨rfl,rfl⟩,⟨rfl,rfl⟩,⟨rfl,rfl⟩,⟨rfl,rfl⟩,⟨rfl,rfl⟩,⟨rfl,tv⟩,⟨rfl,by rw [mput_h]⟩,⟨rfl,tv⟩,tv⟩,rfl,rfl⟩,⟨by simp only; omega,hMM,fun k=>?_⟩,by simp only; omega⟩
    ·exact hb_put hB ⟨by omega,by simp only; omega⟩ (by simp only; omega) k
   ·have ht:¬ v.t ≠ 0:=by simpa using ht
    have hMM:=hM
    rw [if_neg ht] at hMM
    refine ⟨fun _=>⟨by simp only; omega,by simp only; omega⟩,⟨hput m (v.f,v.it) (hold m s.H (v.f,v.it) - v.n),j+1⟩,⟨⟨rfl,rf,rfl,rf,rf,rfl,⟨rfl,rfl,rfl,tv⟩,rf,rf,le_int (by simp),tv⟩,⟨⟨rf,rf,rf,rf,rf,rf,rfl,rfl,rfl,rfl,rfl,tv⟩,⟨rfl,rfl⟩,⟨rfl,rfl⟩,⟨rfl,rfl⟩,⟨rfl,rfl⟩,⟨rfl,rfl⟩,⟨rfl,tv⟩,⟨rfl,by rw [mput_h]⟩,⟨rfl,tv⟩,tv⟩,rfl,rfl⟩,⟨by simp only; omega,hMM,fun k=>?_⟩,by simp only; omega⟩
    ·have:=hB k; simp only; omega
  ·have hf:¬ v.f ≠ 0:=by simpa using hf
   have hM:haM s.H [] l=haM s.H (if v.t ≠ 0 then hput (m) (v.t,v.it) (hold (m) s.H (v.t,v.it)+v.n) else m) (l.drop (j+1)):=by
    rw [p2,hdr]; simp only [haM,hbad]; simp only [hf,if_false]; rfl
   have hB:=p3
   refine ⟨fun ht=>?_,fun ht=>?_⟩
   ·have ht:v.t ≠ 0:=by simpa using ht
    have hMM:=hM
    rw [if_pos ht] at hMM
    have hBt:=hB (v.t,v.it)
    refine .inr ⟨[0,1,2,3,4,5,6,7,8],[.agg [.dv (I v.t),.dv (I v.it)],.ptr 8 0,.ptr 6 0],kHa s (m),0,_,_,holdc_spec s (m) (v.t,v.it),by kernel_rfl,by kernel_rfl,⟨⟨rf,rf,tv⟩,rfl,rfl,tv⟩,⟨⟨rf,rf,rf,rf,rf,rf,rfl,rfl,rfl,rfl,rfl,tv⟩,⟨rfl,rfl⟩,⟨rfl,rfl⟩,⟨rfl,rfl⟩,⟨rfl,rfl⟩,⟨rfl,rfl⟩,⟨rfl,tv⟩,⟨rfl,rfl⟩,⟨rfl,tv⟩,tv⟩,?_⟩
    refine ⟨fun _=>⟨by omega,by omega⟩,?_⟩
    refine ⟨keyT_ky,eKy (v.t,v.it),rfl,rfl,I (hold (m) s.H (v.t,v.it)+v.n),⟨rf,tv⟩,rfl,false,fun _=>?_,.inr ⟨[(0,4)],by kernel_rfl,softQ_x (pol:=pol1) (by kernel_rfl) (by kernel_rfl),?_⟩⟩
    ·exact upd_ok (m) (v.t,v.it) _
    refine ⟨fun _=>⟨by simp only; omega,by simp only; omega⟩,⟨hput (m) (v.t,v.it) (hold (m) s.H (v.t,v.it)+v.n),j+1⟩,⟨⟨rfl,rf,rfl,rf,rf,rfl,⟨rfl,rfl,rfl,tv⟩,rf,rf,le_int (by simp),tv⟩,⟨⟨rf,rf,rf,rf,rf,rf,rfl,rfl,rfl,rfl,rfl,tv⟩,⟨rfl,rfl⟩,⟨rfl,rfl⟩,⟨rfl,rfl⟩,⟨rfl,rfl⟩,⟨rfl,rfl⟩,⟨rfl,tv⟩,⟨rfl,by rw [mput_h]⟩,⟨rfl,tv⟩,tv⟩,rfl,rfl⟩,⟨by simp only; omega,hMM,fun k=>?_⟩,by simp only; omega⟩
    ·exact hb_put hB ⟨by omega,by simp only; omega⟩ (by simp only; omega) k
   ·have ht:¬ v.t ≠ 0:=by simpa using ht
    have hMM:=hM
    rw [if_neg ht] at hMM
    refine ⟨fun _=>⟨by simp only; omega,by simp only; omega⟩,⟨m,j+1⟩,⟨⟨rfl,rf,rfl,rf,rf,rfl,⟨rfl,rfl,rfl,tv⟩,rf,rf,le_int (by simp),tv⟩,⟨⟨rf,rf,rf,rf,rf,rf,rfl,rfl,rfl,rfl,rfl,tv⟩,⟨rfl,rfl⟩,⟨rfl,rfl⟩,⟨rfl,rfl⟩,⟨rfl,rfl⟩,⟨rfl,rfl⟩,⟨rfl,tv⟩,⟨rfl,rfl⟩,⟨rfl,tv⟩,tv⟩,rfl,rfl⟩,⟨by simp only; omega,hMM,fun k=>?_⟩,by simp only; omega⟩
    ·have:=hB k; simp only; omega
 ·have hj:j=l.length:=by have:=of_decide_eq_false hge; simp only at this; omega
  have hr:haM s.H [] l=.ok m:=by rw [p2,hj,List.drop_length]; rfl
  rw [hr]
  exact ⟨_,_,⟨rfl,rfl⟩,by kernel_rfl,⟨rfl,rf,tv⟩,⟨rf,rf,rf,rf,rf,rf,rfl,rfl,rfl,rfl,rfl,tv⟩,⟨rfl,rfl⟩,⟨rfl,rfl⟩,⟨rfl,rfl⟩,⟨rfl,rfl⟩,⟨rfl,rfl⟩,⟨rfl,rfl⟩,tv⟩
end Go.Proofs.YtpbdohkbiklflaaGreatDoor
