import Derived.Test.YtpbdohkbiklflaaGreatDoorCM24
import Derived.Test.YtpbdohkbiklflaaGreatDoorCM26
import Derived.Test.YtpbdohkbiklflaaGreatDoorCM29
set_option linter.unusedVariables false
set_option linter.unusedSimpArgs false
set_option linter.unusedSectionVars false
namespace Go.Proofs.YtpbdohkbiklflaaGreatDoor
open Go.TM
variable [cG]
set_option maxRecDepth 100000
def X0 (st:St):ar:=.cells [.dv (I st.id),.dv (I st.kind),.dv (I st.Ij),.dv (I st.tick),.dv (I st.O0),.dv (I st.times),.dv (Bu st.mv)]
theorem M6 (m:Mv):(bif bif bif bif bif bif bif bif decide (m.it<0) then true else decide (4≤m.it) then true else decide (m.n<1) then true else decide (1099511627776<m.n) then true else decide (m.f<0) then true else decide (1073741824<m.f) then true else decide (m.t<0) then true else decide (1073741824<m.t) then true else decide (m.f=m.t))=jf m:=by
 unfold jf rM
 have e:∀a:Int,(!(decide (0≤a) && decide (a≤1073741824)))=(bif decide (a<0) then true else decide (1073741824<a)):=by
  intro a
  by_cases h1:0≤a <;> by_cases h2:a≤1073741824 <;> simp [h1,h2] <;> omega
 rw [e,e]
 cases decide (m.it<0) <;> cases decide (4≤m.it) <;> cases decide (m.n<1) <;> cases decide (1099511627776<m.n) <;> cases decide (m.f<0) <;> cases decide (1073741824<m.f) <;> cases decide (m.t<0) <;> cases decide (1073741824<m.t) <;> rfl
theorem QM (s:St):tE (fT s)=fT s:=rfl
def Vd (v:RV) (st:St) (i:Nat):aY:=⟨1,[(0,.dv (DD v)),(3,.ptr 0 0),(5,.dv (I i))],[(0,X0 st)]⟩
set_option maxHeartbeats 4000000 in
theorem Gy (v:RV) (hl:m8 v.steps) (R8:v.steps.length≤50) (st:St) (Ve:st.mv.length≤4):cr Tryz.prog 44 [DD v,fT st] [I (pc v.steps [] st.mv)]:=by
 refine bq aD mixed (af _) (ai _) Tryz.func44 rfl (by kernel_rfl) rfl ?_
 refine ⟨Nat,Vd v st,fun i=>i≤st.mv.length∧pc v.steps (st.mv.take i) (st.mv.drop i)=pc v.steps [] st.mv∧∀m∈st.mv.take i,jf m=false,fun i=>st.mv.length - i,0,fun _=>rfl,⟨⟨rf,rfl,rf,tv⟩,⟨⟨rf,rf,rf,rf,rf,rf,rf,tv⟩,tv⟩,rfl,rfl⟩,⟨by omega,by simp,by simp⟩,?_⟩
 rintro i ⟨hi,yC,IP⟩
 refine ⟨fun h=>?_,fun h=>?_⟩
 ·have hk:i<st.mv.length:=by simpa using h
  have hs:=List.getElem?_eq_getElem hk
  have aB:=List.drop_eq_getElem_cons hk
  generalize st.mv[i]=m at hs aB
  have fJ:(st.mv.map cM)[((i:Int)).toNat]?=some (cM m):=by rw [Int.toNat_natCast,List.getElem?_map,hs]; rfl
  rw [aB,pc] at yC
  have aK:st.mv.length - (i+1)<st.mv.length - i:=by omega
  refine ⟨cM m,fun _=>⟨by omega,fJ⟩,?_⟩
  repeat first | refine ⟨id,?_⟩ | refine ⟨fun _ h=>bW h,?_⟩ | refine ⟨fun _ h=>ay h,?_⟩ | refine ⟨fun h=>⟨h,fun h2=>aF h h2⟩,?_⟩ | refine ⟨fun h=>⟨h,fun h2=>aA h h2⟩,?_⟩
  refine ⟨by kernel_rfl,fun hc=>?_,fun hc=>?_⟩
  ·have hc:=(M6 m).symm.trans hc
   rw [if_pos hc] at yC
   exact ⟨au yC,tv⟩
  have hc:=(M6 m).symm.trans hc
  rw [if_neg (by rw [hc]; simp)] at yC
  obtain ⟨b1,b2,b3,b4,b5,b6,b7⟩:=pB hc
  have EO:List.drop (Option.getD none (0:Int)).toNat (List.take (Option.getD (some (i:Int)) ((st.mv.map cM).length:Int)).toNat (st.mv.map cM))=(st.mv.take i).map cM:=by
   simp [List.map_take]
  have pz:∀q:List St,(q.map fT).length=q.length:=fun q=>List.length_map ..
  refine ⟨fun _=>⟨Int.le_refl _,by show (0:Int)≤(i:Int); omega,by show (i:Int)≤((st.mv.map cM).length:Int); rw [List.length_map]; omega⟩,.inr ⟨v.steps.map fT,dm.refl _,by rw [O4,pz]; omega,by rw [pz]; omega,?_⟩⟩
  have JG:st.mv.take (i+1)=st.mv.take i++[m]:=by rw [List.take_add_one,hs]; rfl
  have Vf:∀x∈st.mv.take (i+1),jf x=false:=by
   rw [JG]; intro x hx
   rcases List.mem_append.1 hx with hx | hx
   ·exact IP x hx
   ·simp only [List.mem_singleton] at hx; subst hx; exact hc
  by_cases h0:m.f=0
  ·have hg:bw (m.f != 0) true=false:=by rw [h0]; rfl
   have hg2:(m.f != 0)=false:=by rw [h0]; rfl
   refine .inr (.inl ⟨hg,?_⟩)
   refine .inr (.inl ⟨hg,?_⟩)
   repeat first | refine ⟨id,?_⟩ | refine ⟨fun _ h=>bW h,?_⟩ | refine ⟨fun _ h=>ay h,?_⟩ | refine ⟨fun h=>⟨h,fun h2=>aF h h2⟩,?_⟩ | refine ⟨fun h=>⟨h,fun h2=>aA h h2⟩,?_⟩
   refine .inl ⟨hg,[I 0],(fun h=>by rw [hg] at h; cases h),rfl,?_⟩
   repeat first | refine ⟨id,?_⟩ | refine ⟨fun _ h=>bW h,?_⟩ | refine ⟨fun _ h=>ay h,?_⟩ | refine ⟨fun h=>⟨h,fun h2=>aF h h2⟩,?_⟩ | refine ⟨fun h=>⟨h,fun h2=>aA h h2⟩,?_⟩
   have hn:¬ (m.f ≠ 0∧aN m.f m.it (v.steps++[⟨0,0,0,0,0,0,st.mv.take i⟩])<m.n):=by rintro ⟨h9,_⟩; exact h9 h0
   rw [if_neg hn] at yC
   refine ⟨by kernel_rfl,fun fC=>?_,fun _=>?_⟩
   ·rw [hg2] at fC; cases fC
   ·exact ⟨fun _=>⟨by omega,by omega⟩,i+1,⟨⟨rf,rfl,au (by omega),tv⟩,⟨⟨rf,rf,rf,rf,rf,rf,rf,tv⟩,tv⟩,rfl,rfl⟩,⟨by omega,by rw [JG]; exact yC,Vf⟩,aK⟩
  ·have hg:bw (m.f != 0) true=true:=ay (by simpa using h0)
   refine .inr (.inr ⟨hg,fun _=>hg,.inl ⟨[fT ⟨0,0,0,0,0,0,st.mv.take i⟩],rfl,⟨rf,rf,rf,rf,rf,rf,DV.Le.of_eq (congrArg (DV.sl 5) EO),tv⟩,(by simp; rfl),?_⟩⟩)
   refine .inr (.inr ⟨hg,fun _=>hg,.inr ⟨[fT ⟨0,0,0,0,0,0,st.mv.take i⟩],dm.refl _,by rw [O4,pz]; simp; omega,by rw [pz]; simp; omega,?_⟩⟩)
   repeat first | refine ⟨id,?_⟩ | refine ⟨fun _ h=>bW h,?_⟩ | refine ⟨fun _ h=>ay h,?_⟩ | refine ⟨fun h=>⟨h,fun h2=>aF h h2⟩,?_⟩ | refine ⟨fun h=>⟨h,fun h2=>aA h h2⟩,?_⟩
   have iF:tE (DV.aw 7 (v.steps.map fT++[fT ⟨0,0,0,0,0,0,st.mv.take i⟩]))=ju (v.steps++[(⟨0,0,0,0,0,0,st.mv.take i⟩:St)]):=by
    show DV.sl 7 (FP (v.steps.map fT++[fT ⟨0,0,0,0,0,0,st.mv.take i⟩]))=DV.sl 7 ((v.steps++[(⟨0,0,0,0,0,0,st.mv.take i⟩:St)]).map fT)
    rw [show v.steps.map fT++[fT ⟨0,0,0,0,0,0,st.mv.take i⟩]=(v.steps++[(⟨0,0,0,0,0,0,st.mv.take i⟩:St)]).map fT by simp,oP QM]
   have yD:m8 (v.steps++[(⟨0,0,0,0,0,0,st.mv.take i⟩:St)]):=by
    refine ⟨by rw [List.length_append]; simp; omega,fun s hs=>?_⟩
    rcases List.mem_append.1 hs with hs | hs
    ·exact hl.2 s hs
    ·simp only [List.mem_singleton] at hs; subst hs
     exact ⟨by simp only [List.length_take]; omega,fun x hx=>by have:=pB (IP x hx); omega⟩
   have Zd:=eF _ m.f m.it yD
   rw [←iF] at Zd
   refine .inl (.inl ⟨_,fun _=>Zd.ok,rfl,?_⟩)
   repeat first | refine ⟨id,?_⟩ | refine ⟨fun _ h=>bW h,?_⟩ | refine ⟨fun _ h=>ay h,?_⟩ | refine ⟨fun h=>⟨h,fun h2=>aF h h2⟩,?_⟩ | refine ⟨fun h=>⟨h,fun h2=>aA h h2⟩,?_⟩
   have QN:∀r:Int,(bif m.f != 0 then decide (r<m.n) else false)=decide (r<m.n):=fun r=>by rw [show (m.f != 0)=true by simpa using h0]; rfl
   refine ⟨by kernel_rfl,fun fC=>?_,fun fC=>?_⟩
   ·have fC:=of_decide_eq_true ((QN _).symm.trans fC)
    rw [if_pos ⟨h0,fC⟩] at yC
    exact ⟨au yC,tv⟩
   ·have fC:=of_decide_eq_false ((QN _).symm.trans fC)
    rw [if_neg (fun h9=>fC h9.2)] at yC
    exact ⟨fun _=>⟨by omega,by omega⟩,i+1,⟨⟨rf,rfl,au (by omega),tv⟩,⟨⟨rf,rf,rf,rf,rf,rf,rf,tv⟩,tv⟩,rfl,rfl⟩,⟨by omega,by rw [JG]; exact yC,Vf⟩,aK⟩
 ·have hk:i=st.mv.length:=by
   have:¬ i<st.mv.length:=by simpa using h
   omega
  subst hk
  rw [List.drop_length] at yC
  exact ⟨au yC,tv⟩
end Go.Proofs.YtpbdohkbiklflaaGreatDoor
namespace Go.Proofs.YtpbdohkbiklflaaGreatDoor
open Go.TM
variable [cG]
set_option maxRecDepth 100000
theorem BR (l r:List St):∀xs:List Int,qn l r xs≤4 * xs.length
 | []=>Nat.le_refl _
 | a::q=>by
  have h1:=BR l r q
  have h2:=u6 (fun k=>!decide (aN a (k:Nat) l=aN a (k:Nat) r)) 4
  unfold qn at h1 ⊢
  rw [List.map_cons,List.sum_cons,List.length_cons]
  have h3:Tw a l r=(List.range 4).countP fun k=>!decide (aN a (k:Nat) l=aN a (k:Nat) r):=rfl
  omega
theorem Iy {steps:List St}:∀{r b:List Mv},pc steps b r=0→∀m∈r,jf m=false
 | [],_,_,m,hm=>by cases hm
 | v::r,b,h,m,hm=>by
  rw [pc] at h
  split at h
  ·cases h
  rename_i hb
  split at h
  ·cases h
  rcases List.mem_cons.1 hm with rfl | hm
  ·simpa using hb
  ·exact Iy h m hm
def Vg (v:RV) (st:St) (i:Nat):aY:=⟨2,[(0,.own 0 0 0 []),(3,.ptr 1 0),(6,.dv (ju (v.steps++[st]))),(7,.dv (eE (bp (v.steps++[st])))),(8,.dv (I i))],DI { v with work:=v.work+(qn (v.steps++[st]) v.steps ((bp (v.steps++[st])).take i):Nat) }++[(1,X0 st)]⟩
def SR (v:RV) (st:St) (i:Nat) (a:Int) (k:Nat):aY:=⟨2,[(0,.own 0 0 0 []),(3,.ptr 1 0),(6,.dv (ju (v.steps++[st]))),(7,.dv (eE (bp (v.steps++[st])))),(8,.dv (I i)),(9,.dv (I k))],DI { v with work:=v.work+(qn (v.steps++[st]) v.steps ((bp (v.steps++[st])).take i)+(List.range k).countP fun k=>!decide (aN a (k:Nat) (v.steps++[st])=aN a (k:Nat) v.steps):Nat) }++[(1,X0 st)]⟩
set_option maxHeartbeats 4000000 in
theorem xF (v:RV) (hl:m8 v.steps) (R8:v.steps.length≤50) (st:St) (Ve:st.mv.length≤4) (hw:0≤v.ab∧v.ab≤1099511627776) (SG:0≤v.work∧v.work≤1000000000000) (kX:0≤bs v.steps∧bs v.steps≤1099511627776) :
  aO Tryz.prog 20 [.own 0 0 0 [],zC st] 1 (DI v) 0 [.dv (I (ie v st))] (DI (if ie v st=0 then kQ v st else v)):=by
 refine aJ aD mixed (af _) (ai _) Tryz.func20 rfl rfl (by kernel_rfl) ?_
 refine .inl (.inl ⟨_,fun _=>(ig v (by omega)).ok,rfl,?_⟩)
 repeat first | refine ⟨id,?_⟩ | refine ⟨fun _ h=>bW h,?_⟩ | refine ⟨fun _ h=>ay h,?_⟩ | refine ⟨fun h=>⟨h,fun h2=>aF h h2⟩,?_⟩ | refine ⟨fun h=>⟨h,fun h2=>aA h h2⟩,?_⟩
 refine ⟨by kernel_rfl,fun hc=>?_,fun hc=>?_⟩
 ·have hc:st.tick<bs v.steps ∨ 1099511627776<st.tick:=by
   have hc:(bif decide (st.tick<bs v.steps) then true else decide (1099511627776<st.tick))=true:=hc
   simpa using hc
  have he:ie v st=1:=if_pos hc
  rw [he,if_neg (by decide)]
  exact ⟨_,_,⟨rfl,rfl⟩,by kernel_rfl,⟨rf,tv⟩,⟨rfl,rfl⟩,tv⟩
 have hc:¬ (st.tick<bs v.steps ∨ 1099511627776<st.tick):=by
  have hc:(bif decide (st.tick<bs v.steps) then true else decide (1099511627776<st.tick))=false:=hc
  rintro (h1 | h1) <;> simp [h1] at hc
 refine .inl (.inl ⟨_,fun _=>(Gy v hl R8 st Ve).ok,rfl,?_⟩)
 refine ⟨fun h9=>?_,fun h9=>?_⟩
 ·have h9:pc v.steps [] st.mv ≠ 0:=by simpa using h9
  have he:ie v st=pc v.steps [] st.mv:=by unfold ie; rw [if_neg hc,if_pos h9]
  rw [he,if_neg h9]
  exact ⟨_,_,⟨rfl,rfl⟩,by kernel_rfl,⟨rf,tv⟩,⟨rfl,rfl⟩,tv⟩
 have h9:pc v.steps [] st.mv=0:=by simpa using h9
 have hE:ie v st=if v.aE<(rO v.coin v.ab (v.steps++[st]) st.tick:Int) then 22 else 0:=by
  unfold ie; rw [if_neg hc,if_neg (by rw [h9]; simp)]
 have XB:=Iy (b:=[]) h9
 have hlen:(v.steps++[st]).length=v.steps.length+1:=by rw [List.length_append]; rfl
 have yD:m8 (v.steps++[st]):=by
  refine ⟨by omega,fun s hs=>?_⟩
  rcases List.mem_append.1 hs with hs | hs
  ·exact hl.2 s hs
  ·simp only [List.mem_singleton] at hs; subst hs
   exact ⟨Ve,fun x hx=>by have:=pB (XB x hx); omega⟩
 have iF:tE (DV.aw 7 (v.steps.map fT++[fT st]))=ju (v.steps++[st]):=by
  show DV.sl 7 (FP (v.steps.map fT++[fT st]))=DV.sl 7 ((v.steps++[st]).map fT)
  rw [show v.steps.map fT++[fT st]=(v.steps++[st]).map fT by simp,oP QM]
 have pz:∀q:List St,(q.map fT).length=q.length:=fun q=>List.length_map ..
 have JG:0≤st.tick∧st.tick≤1099511627776:=by omega
 have aU:=xh v (v.steps++[st]) yD st.tick (by omega)
 have Tr:=oU (v.steps++[st]) yD
 rw [←iF] at aU Tr
 refine .inr ⟨v.steps.map fT,dm.refl _,by rw [O4,pz]; omega,by rw [pz]; omega,?_⟩
 refine .inl ⟨[fT st],rfl,⟨rf,rf,rf,rf,rf,rf,rf,tv⟩,(by simp; rfl),.inr ⟨[fT st],dm.refl _,by rw [O4,pz]; simp; omega,by rw [pz]; simp; omega,?_⟩⟩
 refine .inl (.inl ⟨_,fun _=>aU.ok,rfl,?_⟩)
 refine ⟨by kernel_rfl,fun hz=>?_,fun hz=>?_⟩
 ·have hz:=of_decide_eq_true hz
  rw [if_pos hz] at hE
  rw [hE,if_neg (by decide)]
  exact ⟨_,_,⟨rfl,rfl⟩,by kernel_rfl,⟨rf,tv⟩,⟨rfl,rfl⟩,tv⟩
 have hz:=of_decide_eq_false hz
 rw [if_neg hz] at hE
 rw [hE,if_pos rfl]
 refine .inl (.inr ⟨_,fun _=>Tr.ok,?_⟩)
 have QG:=xe yD
 refine ⟨Nat,Vg v st,fun i=>i≤(bp (v.steps++[st])).length,fun i=>(bp (v.steps++[st])).length - i,0,fun _=>rfl,⟨⟨rfl,rfl,?_,rf,rf,tv⟩,⟨⟨rfl,?_⟩,⟨rf,rf,rf,rf,rf,rf,rf,tv⟩,tv⟩,rfl,rfl⟩,by omega,?_⟩
 ·exact DV.Le.of_eq iF
 ·show DV.cB (QF v)=DV.cB (QF { v with work:=v.work+(qn (v.steps++[st]) v.steps ((bp (v.steps++[st])).take 0):Nat) })
  rw [List.take_zero,show qn (v.steps++[st]) v.steps []=0 from rfl,show v.work+((0:Nat):Int)=v.work by omega]
 rintro i hi
 refine ⟨fun h=>?_,fun h=>?_⟩
 ·have hk:i<(bp (v.steps++[st])).length:=by simpa using h
  have hs:=List.getElem?_eq_getElem hk
  generalize (bp (v.steps++[st]))[i]=a at hs
  have fJ:((bp (v.steps++[st])).map I)[((i:Int)).toNat]?=some (I a):=by rw [Int.toNat_natCast,List.getElem?_map,hs]; rfl
  have SC:=BR (v.steps++[st]) v.steps ((bp (v.steps++[st])).take i)
  rw [List.length_take] at SC
  refine ⟨Nat,SR v st i a,fun k=>k≤4,fun k=>4 - k,0,fun _=>rfl,⟨⟨rfl,rfl,rf,rf,rf,rf,tv⟩,⟨⟨rfl,rfl⟩,⟨rf,rf,rf,rf,rf,rf,rf,tv⟩,tv⟩,rfl,rfl⟩,by omega,?_⟩
  rintro k A9
  refine ⟨fun h=>?_,fun h=>?_⟩
  ·have Ge:k<4:=by have:=of_decide_eq_true h; omega
   have cC:=DF (fun k=>!decide (aN a (k:Nat) (v.steps++[st])=aN a (k:Nat) v.steps)) k
   have O5:=u6 (fun k=>!decide (aN a (k:Nat) (v.steps++[st])=aN a (k:Nat) v.steps)) k
   refine ⟨I a,fun _=>⟨by omega,fJ⟩,?_⟩
   refine .inl ⟨_,fun _=>(eF (v.steps++[st]) a k yD).ok,?_⟩
   refine ⟨I a,fun _=>⟨by omega,fJ⟩,?_⟩
   refine .inl ⟨_,fun _=>(eF v.steps a k hl).ok,?_⟩
   have aK:4 - (k+1)<4 - k:=by omega
   refine ⟨by kernel_rfl,fun hc=>?_,fun hc=>?_⟩
   ·have hc:(!decide (aN a (k:Nat) (v.steps++[st])=aN a (k:Nat) v.steps))=true:=hc
    rw [if_pos hc] at cC
    generalize hD:qn (v.steps++[st]) v.steps ((bp (v.steps++[st])).take i)=D at *
    generalize hC:(List.range k).countP (fun k=>!decide (aN a (k:Nat) (v.steps++[st])=aN a (k:Nat) v.steps))=C at *
    refine ⟨fun _=>⟨by show _≤v.work+((D+C:Nat):Int)+1; omega,by show v.work+((D+C:Nat):Int)+1≤_; omega⟩,?_⟩
    refine ⟨[I (v.work+((D+C:Nat):Int)+1)],⟨rf,tv⟩,?_⟩
    refine ⟨fun _=>⟨by omega,by omega⟩,k+1,⟨⟨rfl,rfl,rf,rf,rf,au (by omega),tv⟩,⟨⟨rfl,?_⟩,⟨rf,rf,rf,rf,rf,rf,rf,tv⟩,tv⟩,rfl,rfl⟩,by omega,aK⟩
    rw [hD,cC]
    show DV.cB (.agg [I 4,I v.coin,I v.ab,I v.aE,ju v.steps,I (v.work+((D+C:Nat):Int)+1)])=DV.cB (.agg [I 4,I v.coin,I v.ab,I v.aE,ju v.steps,I (v.work+((D+(C+1):Nat):Int))])
    rw [show v.work+((D+C:Nat):Int)+1=v.work+((D+(C+1):Nat):Int) by omega]
   ·have hc:(!decide (aN a (k:Nat) (v.steps++[st])=aN a (k:Nat) v.steps))=false:=hc
    rw [if_neg (by rw [hc]; simp)] at cC
    refine ⟨fun _=>⟨by omega,by omega⟩,k+1,⟨⟨rfl,rfl,rf,rf,rf,au (by omega),tv⟩,⟨⟨rfl,?_⟩,⟨rf,rf,rf,rf,rf,rf,rf,tv⟩,tv⟩,rfl,rfl⟩,by omega,aK⟩
    rw [cC]; rfl
  ·have Ge:k=4:=by have:=of_decide_eq_false h; omega
   have cC:=DG (f:=fun a=>Tw a (v.steps++[st]) v.steps) hs
   refine ⟨fun _=>⟨by omega,by omega⟩,i+1,⟨⟨rfl,rfl,rf,rf,au (by omega),tv⟩,⟨⟨rfl,?_⟩,⟨rf,rf,rf,rf,rf,rf,rf,tv⟩,tv⟩,rfl,rfl⟩,by omega,by show (bp (v.steps++[st])).length - (i+1)<(bp (v.steps++[st])).length - i; omega⟩
   rw [Ge,show qn (v.steps++[st]) v.steps ((bp (v.steps++[st])).take (i+1))=qn (v.steps++[st]) v.steps ((bp (v.steps++[st])).take i)+(List.range 4).countP (fun k=>!decide (aN a (k:Nat) (v.steps++[st])=aN a (k:Nat) v.steps)) from cC]
 ·have hk:i=(bp (v.steps++[st])).length:=by
   have:¬ i<(bp (v.steps++[st])).length:=by simpa using h
   omega
  rw [hk,List.take_length]
  have hDl:=BR (v.steps++[st]) v.steps (bp (v.steps++[st]))
  have Ze:kQ v st={ v with steps:=v.steps++[st],work:=v.work+(qn (v.steps++[st]) v.steps (bp (v.steps++[st])):Int)+gV (br v.coin st)+(bz v.coin v.ab v.steps (bs v.steps):Int) - ((bz v.coin v.ab (v.steps++[st]) st.tick:Int) - gV (br v.coin st)) }:=rfl
  generalize qn (v.steps++[st]) v.steps (bp (v.steps++[st]))=D at *
  have oT:=zF { v with work:=v.work+(D:Nat) } st
  rw [Bx] at oT
  generalize fw v.coin st=q at oT
  refine .inl (.inl ⟨_,fun _=>oT.ok,rfl,?_⟩)
  have fh:=Bz v.coin v.ab v.steps (bs v.steps)
  have ph:=Bz v.coin v.ab (v.steps++[st]) st.tick
  have Zf:∀w,w+(bz v.coin v.ab v.steps (bs v.steps):Int) - ((bz v.coin v.ab (v.steps++[st]) st.tick:Int) - gV (br v.coin st))=(kQ v st).work→QF (kQ v st)=.agg [I 4,I v.coin,I v.ab,I v.aE,ju (v.steps++[st]),I (w+(bz v.coin v.ab v.steps (bs v.steps):Int) - ((bz v.coin v.ab (v.steps++[st]) st.tick:Int) - gV (br v.coin st)))]:=fun w hw=>by rw [hw]; rfl
  have uG:0≤gV (br v.coin st)∧gV (br v.coin st)≤1:=by unfold gV; cases br v.coin st <;> simp
  refine ⟨fun hb=>?_,fun hb=>?_⟩
  ·have hb:br v.coin st=true:=hb
   refine ⟨fun _=>⟨by show _≤v.work+(D:Int)+1; omega,by show v.work+(D:Int)+1≤_; omega⟩,?_⟩
   refine ⟨[I (v.work+(D:Int)+1)],⟨rf,tv⟩,?_⟩
   refine .inl (.inl ⟨_,fun _=>(ig { v with work:=v.work+(D:Int)+1 } (by show v.steps.length≤1000; omega)).ok,rfl,?_⟩)
   refine .inl (.inl ⟨_,fun _=>(j5 { v with work:=v.work+(D:Int)+1 } v.steps hl.1 (bs v.steps) (by show _≤bs v.steps - v.ab∧bs v.steps - v.ab≤_; omega)).ok,rfl,?_⟩)
   refine ⟨fun _=>⟨by show _≤v.work+(D:Int)+1+(bz v.coin v.ab v.steps (bs v.steps):Int); omega,by show v.work+(D:Int)+1+(bz v.coin v.ab v.steps (bs v.steps):Int)≤_; omega⟩,?_⟩
   refine .inl (.inl ⟨_,fun _=>(j5 { v with work:=v.work+(D:Int)+1 } (v.steps++[st]) yD.1 st.tick (by show _≤st.tick - v.ab∧st.tick - v.ab≤_; omega)).ok,rfl,?_⟩)
   refine .inl ⟨_,fun _=>(DE (br v.coin st)).ok,?_⟩
   refine ⟨fun _=>⟨by show _≤(bz v.coin v.ab (v.steps++[st]) st.tick:Int) - gV (br v.coin st); omega,by show (bz v.coin v.ab (v.steps++[st]) st.tick:Int) - gV (br v.coin st)≤_; omega⟩,?_⟩
   refine ⟨fun _=>⟨by show _≤v.work+(D:Int)+1+(bz v.coin v.ab v.steps (bs v.steps):Int) - ((bz v.coin v.ab (v.steps++[st]) st.tick:Int) - gV (br v.coin st)); omega,by show v.work+(D:Int)+1+(bz v.coin v.ab v.steps (bs v.steps):Int) - ((bz v.coin v.ab (v.steps++[st]) st.tick:Int) - gV (br v.coin st))≤_; omega⟩,?_⟩
   refine ⟨[I (v.work+(D:Int)+1+(bz v.coin v.ab v.steps (bs v.steps):Int) - ((bz v.coin v.ab (v.steps++[st]) st.tick:Int) - gV (br v.coin st)))],⟨rf,tv⟩,?_⟩
   refine ⟨by kernel_rfl,?_⟩
   refine ⟨[ju (v.steps++[st])],⟨rf,tv⟩,?_⟩
   refine ⟨_,_,⟨rfl,rfl⟩,by kernel_rfl,⟨rf,tv⟩,⟨rfl,?_⟩,tv⟩
   rw [Zf (v.work+(D:Int)+1) (by rw [Ze,hb]; simp [gV])]
   rfl
  ·have hb:br v.coin st=false:=hb
   refine .inl (.inl ⟨_,fun _=>(ig { v with work:=v.work+(D:Int) } (by show v.steps.length≤1000; omega)).ok,rfl,?_⟩)
   refine .inl (.inl ⟨_,fun _=>(j5 { v with work:=v.work+(D:Int) } v.steps hl.1 (bs v.steps) (by show _≤bs v.steps - v.ab∧bs v.steps - v.ab≤_; omega)).ok,rfl,?_⟩)
   refine ⟨fun _=>⟨by show _≤v.work+(D:Int)+(bz v.coin v.ab v.steps (bs v.steps):Int); omega,by show v.work+(D:Int)+(bz v.coin v.ab v.steps (bs v.steps):Int)≤_; omega⟩,?_⟩
   refine .inl (.inl ⟨_,fun _=>(j5 { v with work:=v.work+(D:Int) } (v.steps++[st]) yD.1 st.tick (by show _≤st.tick - v.ab∧st.tick - v.ab≤_; omega)).ok,rfl,?_⟩)
   refine .inl ⟨_,fun _=>(DE (br v.coin st)).ok,?_⟩
   refine ⟨fun _=>⟨by show _≤(bz v.coin v.ab (v.steps++[st]) st.tick:Int) - gV (br v.coin st); omega,by show (bz v.coin v.ab (v.steps++[st]) st.tick:Int) - gV (br v.coin st)≤_; omega⟩,?_⟩
   refine ⟨fun _=>⟨by show _≤v.work+(D:Int)+(bz v.coin v.ab v.steps (bs v.steps):Int) - ((bz v.coin v.ab (v.steps++[st]) st.tick:Int) - gV (br v.coin st)); omega,by show v.work+(D:Int)+(bz v.coin v.ab v.steps (bs v.steps):Int) - ((bz v.coin v.ab (v.steps++[st]) st.tick:Int) - gV (br v.coin st))≤_; omega⟩,?_⟩
   refine ⟨[I (v.work+(D:Int)+(bz v.coin v.ab v.steps (bs v.steps):Int) - ((bz v.coin v.ab (v.steps++[st]) st.tick:Int) - gV (br v.coin st)))],⟨rf,tv⟩,?_⟩
   refine ⟨by kernel_rfl,?_⟩
   refine ⟨[ju (v.steps++[st])],⟨rf,tv⟩,?_⟩
   refine ⟨_,_,⟨rfl,rfl⟩,by kernel_rfl,⟨rf,tv⟩,⟨rfl,?_⟩,tv⟩
   rw [Zf (v.work+(D:Int)) (by rw [Ze,hb]; simp [gV])]
   rfl
end Go.Proofs.YtpbdohkbiklflaaGreatDoor
namespace Go.Proofs.YtpbdohkbiklflaaGreatDoor
open Go.TM
variable [cG]
def Wk:Vs:=MU 1 10 100
def mW:St:=⟨0,0,0,0,0,0,[⟨0,1,0,5⟩,⟨0,2,1,9⟩]⟩
def Fw:St:=⟨0,2,0,4,0,0,[⟨1,2,0,3⟩,⟨2,1,1,7⟩]⟩
def A1:HM:=[((1,0),5),((2,1),9)]
def A2:HM:=[((1,0),2),((2,0),3),((2,1),2),((1,1),7)]
theorem SU (coin ab aE:Int) (hw:1≤ab∧ab≤1099511627776):Kq (MU coin ab aE) [] 0 0:=by
 refine ⟨⟨List.nodup_nil,fun p hp=>(by cases hp),Nat.le_refl _,rfl,rfl,fun i hi=>?_,fun i hi=>?_⟩,⟨⟨rfl,rfl,fun p hp=>(by cases hp),fun i f l h=>?_,fun i f l h hf=>?_,by simp,fun p hp=>(by cases hp)⟩,Nat.le_refl _,fun p hp=>(by cases hp),fun i j x y hx=>by simp [bI] at hx,List.Pairwise.nil,fun p hp=>(by cases hp)⟩,hw,Int.le_refl _,⟨Int.le_refl _,Int.le_refl _⟩,fun p hp=>(by cases hp)⟩
 ·have:(MU coin ab aE).rk.getD i (true,[])=(true,[]):=by
   obtain h | h | h | h:i=0 ∨ i=1 ∨ i=2 ∨ i=3:=by omega
   all_goals (subst h; rfl)
  rw [this]
  exact ⟨fun _=>rfl,List.Pairwise.nil,fun x=>by simp [MU,bt]⟩
 ·obtain h | h | h | h:i=0 ∨ i=1 ∨ i=2 ∨ i=3:=by omega
  all_goals (subst h; rfl)
 all_goals
  have hi:i<4:=(List.getElem?_eq_some_iff.1 h).1
  obtain h0 | h0 | h0 | h0:i=0 ∨ i=1 ∨ i=2 ∨ i=3:=by omega
  all_goals (subst h0; simp [MU] at h; simp [bI,h])
theorem f1:ez Wk [] mW=.ok A1:=by kernel_rfl
def TA:Vs:=cN Wk [] mW (aL Wk A1)
def S1:SS:=n5 Wk [] mW
theorem f2:ez TA S1 Fw=.ok A2:=by kernel_rfl
def zV:Vs:=cN TA S1 Fw (aL TA A2)
def S2:SS:=n5 TA S1 Fw
theorem v1:Kq TA S1 8 1:=(BJ (SU 1 10 100 ⟨by omega,by omega⟩) (by omega) (by omega) mW (by simp [mW]) f1).1
theorem v2:Kq zV S2 16 2:=(BJ v1 (by omega) (by omega) Fw (by simp [Fw]) f2).1
set_option maxRecDepth 100000
set_option maxHeartbeats 4000000 in
theorem Gz:cr Tryz.prog 14 [] [B true]:=by
 have c0:=zS 1 10 100 rfl rfl
 have c1:=ta (SU 1 10 100 ⟨by omega,by omega⟩) (by omega) (by omega) mW (by simp [mW])
 have c2:=ta v1 (by omega) (by omega) Fw (by simp [Fw])
 rw [show ez (MU 1 10 100) [] mW=.ok A1 from f1] at c1
 rw [f2] at c2
 simp only at c1 c2
 have ew:zV.ab=10:=by kernel_rfl
 have X1:=oa zV 0 13 (by omega) (by kernel_rfl) (by rw [show zV.last=4 by kernel_rfl]; omega) [⟨4,3,7,3,7⟩] (by kernel_rfl) 0 (by omega) (by simp) (by rw [ew]; omega) (fun i y hi _=>by omega)
  (fun i y _ hy=>by have hy:=List.mem_of_getElem? hy; simp only [List.mem_singleton] at hy; subst hy; rw [ew]; simp only; omega) (fun y hy=>by simp only [List.mem_singleton] at hy; subst hy; simp only; omega)
 have X2:=oa zV 0 14 (by omega) (by kernel_rfl) (by rw [show zV.last=4 by kernel_rfl]; omega) [⟨4,3,7,3,7⟩] (by kernel_rfl) 1 (by simp) (by simp) (by rw [ew]; omega)
  (fun i y _ hy=>by have hy:=List.mem_of_getElem? hy; simp only [List.mem_singleton] at hy; subst hy; rw [ew]; simp only; omega) (fun i y hi hy=>by have:=(List.getElem?_eq_some_iff.1 hy).1; simp at this; omega) (fun y hy=>by simp only [List.mem_singleton] at hy; subst hy; simp only; omega)
 rw [show j8 zV 0 [⟨4,3,7,3,7⟩] 0=([0,1,3,7,2],true) by kernel_rfl] at X1
 rw [show j8 zV 0 [⟨4,3,7,3,7⟩] 1=([0,0,0,0,0],false) by kernel_rfl] at X2
 simp only at X1 X2
 have t0:=w9 zV (by kernel_rfl) (fun x hx=>by
  obtain ⟨i,hi⟩:=List.getElem?_of_mem hx
  have hl:i<4:=by have:=(List.getElem?_eq_some_iff.1 hi).1; rw [show zV.rk.length=4 by kernel_rfl] at this; exact this
  have:=v2.bK.rk i hl
  rw [List.getD_eq_getElem?_getD,hi] at this
  have h2:=BC this
  have h3:=v2.bK.len
  exact ⟨by simp only [Option.getD_some] at h2; omega,this.1⟩) 0 1 (by omega)
 rw [show Dv zV 0 1=[(2,3)] by kernel_rfl] at t0
 have z0:=s6 zV (by rw [show zV.H.length=4 by kernel_rfl,show zV.bH.length=1 by kernel_rfl]; omega)
 rw [show ((zV.H.length:Int)+(zV.bH.length:Int))=5 by kernel_rfl] at z0
 refine bq aD mixed (af _) (ai _) Tryz.func14 rfl (by kernel_rfl) rfl ?_
 refine .inl ⟨_,fun _=>xA.ok,?_⟩
 refine .inr ⟨[],[wg (Bn eJ),.dv (I 1),.dv (I 10),.dv (I 100)],[],7,_,_,c0,by kernel_rfl,by kernel_rfl,⟨⟨rf,rf,rf,rf,tv⟩,rf,rf,rf,tv⟩,tv,?_⟩
 repeat first | refine ⟨id,?_⟩ | refine ⟨fun _ h=>bW h,?_⟩ | refine ⟨fun _ h=>ay h,?_⟩ | refine ⟨fun h=>⟨h,fun h2=>aF h h2⟩,?_⟩ | refine ⟨fun h=>⟨h,fun h2=>aA h h2⟩,?_⟩
 refine ⟨fun h=>by simp at h,fun _=>?_⟩
 refine .inl ⟨[cM ⟨0,1,0,5⟩,cM ⟨0,2,1,9⟩],rfl,⟨rf,rf,rf,rf,rf,rf,rf,rf,rf,rf,tv⟩,(by simp; exact ⟨rfl,rfl⟩),.inr ⟨[4,1,2,5,3,6],[.ptr 0 0,zC mW],vK false (MU 1 10 100),9,_,_,c1,by kernel_rfl,by kernel_rfl,⟨rfl,⟨rf,rf,rf,rf,rf,rf,rf,tv⟩,tv⟩,⟨⟨rf,rf,rf,rf,rf,rf,rfl,rfl,rfl,rfl,rfl,tv⟩,⟨rfl,rfl⟩,⟨rfl,rfl⟩,⟨rfl,rfl⟩,⟨rfl,rfl⟩,⟨rfl,rfl⟩,tv⟩,?_⟩⟩
 refine .inl ⟨[cM ⟨1,2,0,3⟩,cM ⟨2,1,1,7⟩],rfl,⟨rf,rf,rf,rf,rf,rf,rf,rf,rf,rf,tv⟩,(by simp; exact ⟨rfl,rfl⟩),.inr ⟨[4,1,2,5,3,6],[.ptr 0 0,zC Fw],vK false TA,9,_,_,c2,by kernel_rfl,by kernel_rfl,⟨rfl,⟨rf,rf,rf,rf,rf,rf,rf,tv⟩,tv⟩,⟨⟨rf,rf,rf,rf,rf,rf,rfl,rfl,rfl,rfl,rfl,tv⟩,⟨rfl,rfl⟩,⟨rfl,rfl⟩,⟨rfl,rfl⟩,⟨rfl,rfl⟩,⟨rfl,rfl⟩,tv⟩,?_⟩⟩
 refine .inr ⟨[4,1,2,5,3,6],[.ptr 0 0,.dv (I 0),.dv (I 13)],vK false zV,0,_,_,X1,by kernel_rfl,by kernel_rfl,⟨rfl,rf,rf,tv⟩,⟨⟨rf,rf,rf,rf,rf,rf,rfl,rfl,rfl,rfl,rfl,tv⟩,⟨rfl,rfl⟩,⟨rfl,rfl⟩,⟨rfl,rfl⟩,⟨rfl,rfl⟩,⟨rfl,rfl⟩,tv⟩,?_⟩
 refine .inr ⟨[4,1,2,5,3,6],[.ptr 0 0,.dv (I 0),.dv (I 14)],vK false zV,0,_,_,X2,by kernel_rfl,by kernel_rfl,⟨rfl,rf,rf,tv⟩,⟨⟨rf,rf,rf,rf,rf,rf,rfl,rfl,rfl,rfl,rfl,tv⟩,⟨rfl,rfl⟩,⟨rfl,rfl⟩,⟨rfl,rfl⟩,⟨rfl,rfl⟩,⟨rfl,rfl⟩,tv⟩,?_⟩
 refine .inr ⟨[4,1,2,5,3,6],[.ptr 0 0,.dv (I 0),.dv (I 1)],vK false zV,0,_,_,t0,by kernel_rfl,by kernel_rfl,⟨rfl,rf,rf,tv⟩,⟨⟨rf,rf,rf,rf,rf,rf,rfl,rfl,rfl,rfl,rfl,tv⟩,⟨rfl,rfl⟩,⟨rfl,rfl⟩,⟨rfl,rfl⟩,⟨rfl,rfl⟩,⟨rfl,rfl⟩,tv⟩,?_⟩
 repeat first | refine ⟨id,?_⟩ | refine ⟨fun _ h=>bW h,?_⟩ | refine ⟨fun _ h=>ay h,?_⟩ | refine ⟨fun h=>⟨h,fun h2=>aF h h2⟩,?_⟩ | refine ⟨fun h=>⟨h,fun h2=>aA h h2⟩,?_⟩
 refine ⟨eR (2,3),fun _=>⟨by omega,rfl⟩,?_⟩
 repeat first | refine ⟨id,?_⟩ | refine ⟨fun _ h=>bW h,?_⟩ | refine ⟨fun _ h=>ay h,?_⟩ | refine ⟨fun h=>⟨h,fun h2=>aF h h2⟩,?_⟩ | refine ⟨fun h=>⟨h,fun h2=>aA h h2⟩,?_⟩
 refine ⟨eR (2,3),fun _=>⟨by omega,rfl⟩,?_⟩
 repeat first | refine ⟨id,?_⟩ | refine ⟨fun _ h=>bW h,?_⟩ | refine ⟨fun _ h=>ay h,?_⟩ | refine ⟨fun h=>⟨h,fun h2=>aF h h2⟩,?_⟩ | refine ⟨fun h=>⟨h,fun h2=>aA h h2⟩,?_⟩
 refine .inr ⟨[4,1,2,5,3,6],[.ptr 0 0],vK false zV,0,_,_,z0,by kernel_rfl,by kernel_rfl,⟨rfl,tv⟩,⟨⟨rf,rf,rf,rf,rf,rf,rfl,rfl,rfl,rfl,rfl,tv⟩,⟨rfl,rfl⟩,⟨rfl,rfl⟩,⟨rfl,rfl⟩,⟨rfl,rfl⟩,⟨rfl,rfl⟩,tv⟩,?_⟩
 exact ⟨by kernel_rfl,fun _=>rfl,fun _ _=>by kernel_rfl,DV.Le.of_eq (by kernel_rfl),tv⟩
end Go.Proofs.YtpbdohkbiklflaaGreatDoor
