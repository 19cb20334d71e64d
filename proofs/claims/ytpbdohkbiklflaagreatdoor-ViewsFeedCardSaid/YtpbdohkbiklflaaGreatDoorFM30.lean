import Derived.Test.YtpbdohkbiklflaaGreatDoorFM29
import Derived.Test.YtpbdohkbiklflaaGreatDoorFM26
set_option linter.unusedVariables false
set_option linter.unusedSimpArgs false
set_option linter.unusedSectionVars false
namespace Go.Proofs.YtpbdohkbiklflaaGreatDoor
open Go.TM
variable [de]
set_option maxRecDepth 100000
theorem AY (l r:List St):∀xs:List Int,pD l r xs≤4 * xs.length
 | []=>Nat.le_refl _
 | a::q=>by
  have h1:=AY l r q
  have h2:=uo (fun k=>!decide (aL a (k:Nat) l=aL a (k:Nat) r)) 4
  unfold pD at h1 ⊢
  rw [List.map_cons,List.sum_cons,List.length_cons]
  have h3:Rv a l r=(List.range 4).countP fun k=>!decide (aL a (k:Nat) l=aL a (k:Nat) r):=rfl
  omega
theorem He {steps:List St}:∀{r b:List Mv},oD steps b r=0→∀m∈r,iN m=false
 | [],_,_,m,hm=>by cases hm
 | v::r,b,h,m,hm=>by
  rw [oD] at h
  split at h
  ·cases h
  rename_i hb
  split at h
  ·cases h
  rcases List.mem_cons.1 hm with rfl | hm
  ·simpa using hb
  ·exact He h m hm
def Tn (v:RV) (st:St) (i:Nat):bh:=⟨2,[(0,.own 0 0 0 []),(3,.ptr 1 0),(6,.dv (jJ (v.steps++[st]))),(7,.dv (eY (bk (v.steps++[st])))),(8,.dv (I i))],GY { v with work:=v.work+(pD (v.steps++[st]) v.steps ((bk (v.steps++[st])).take i):Nat) }++[(1,VT st)]⟩
def QY (v:RV) (st:St) (i:Nat) (a:Int) (k:Nat):bh:=⟨2,[(0,.own 0 0 0 []),(3,.ptr 1 0),(6,.dv (jJ (v.steps++[st]))),(7,.dv (eY (bk (v.steps++[st])))),(8,.dv (I i)),(9,.dv (I k))],GY { v with work:=v.work+(pD (v.steps++[st]) v.steps ((bk (v.steps++[st])).take i)+(List.range k).countP fun k=>!decide (aL a (k:Nat) (v.steps++[st])=aL a (k:Nat) v.steps):Nat) }++[(1,VT st)]⟩
set_option maxHeartbeats 4000000 in
theorem wR (v:RV) (hl:nw v.steps) (SA:v.steps.length≤50) (st:St) (VU:st.mv.length≤4) (hw:0≤v.ab∧v.ab≤1099511627776) (Rx:0≤v.work∧v.work≤1000000000000) (qm:0≤bZ v.steps∧bZ v.steps≤1099511627776) :
  bn Tryz.prog 20 [.own 0 0 0 [],AE st] 1 (GY v) 0 [.dv (I (kn v st))] (GY (if kn v st=0 then pE v st else v)):=by
 refine bl aG mixed (aq _) (ar _) Tryz.func20 rfl rfl (by kernel_rfl) ?_
 refine .inl (.inl ⟨_,fun _=>(jm v (by omega)).ok,rfl,?_⟩)
 repeat first | refine ⟨id,?_⟩ | refine ⟨fun _ h=>cf h,?_⟩ | refine ⟨fun _ h=>ax h,?_⟩ | refine ⟨fun h=>⟨h,fun h2=>aQ h h2⟩,?_⟩ | refine ⟨fun h=>⟨h,fun h2=>aD h h2⟩,?_⟩
 refine ⟨by kernel_rfl,fun hc=>?_,fun hc=>?_⟩
 ·have hc:st.tick<bZ v.steps ∨ 1099511627776<st.tick:=by
   have hc:(bif decide (st.tick<bZ v.steps) then true else decide (1099511627776<st.tick))=true:=hc
   simpa using hc
  have he:kn v st=1:=if_pos hc
  rw [he,if_neg (by decide)]
  exact ⟨_,_,⟨rfl,rfl⟩,by kernel_rfl,⟨rf,tv⟩,⟨rfl,rfl⟩,tv⟩
 have hc:¬ (st.tick<bZ v.steps ∨ 1099511627776<st.tick):=by
  have hc:(bif decide (st.tick<bZ v.steps) then true else decide (1099511627776<st.tick))=false:=hc
  rintro (h1 | h1) <;> simp [h1] at hc
 refine .inl (.inl ⟨_,fun _=>(Ft v hl SA st VU).ok,rfl,?_⟩)
 refine ⟨fun h9=>?_,fun h9=>?_⟩
 ·have h9:oD v.steps [] st.mv ≠ 0:=by simpa using h9
  have he:kn v st=oD v.steps [] st.mv:=by unfold kn; rw [if_neg hc,if_pos h9]
  rw [he,if_neg h9]
  exact ⟨_,_,⟨rfl,rfl⟩,by kernel_rfl,⟨rf,tv⟩,⟨rfl,rfl⟩,tv⟩
 have h9:oD v.steps [] st.mv=0:=by simpa using h9
 have hE:kn v st=if v.aC<(qT v.coin v.ab (v.steps++[st]) st.tick:Int) then 22 else 0:=by
  unfold kn; rw [if_neg hc,if_neg (by rw [h9]; simp)]
 have VD:=He (b:=[]) h9
 have hlen:(v.steps++[st]).length=v.steps.length+1:=by rw [List.length_append]; rfl
 have C4:nw (v.steps++[st]):=by
  refine ⟨by omega,fun s hs=>?_⟩
  rcases List.mem_append.1 hs with hs | hs
  ·exact hl.2 s hs
  ·simp only [List.mem_singleton] at hs; subst hs
   exact ⟨VU,fun x hx=>by have:=oR (VD x hx); omega⟩
 have hZ:sQ (DV.ay 7 (v.steps.map gL++[gL st]))=jJ (v.steps++[st]):=by
  show DV.sl 7 (EG (v.steps.map gL++[gL st]))=DV.sl 7 ((v.steps++[st]).map gL)
  rw [show v.steps.map gL++[gL st]=(v.steps++[st]).map gL by simp,oc O0]
 have oQ:∀q:List St,(q.map gL).length=q.length:=fun q=>List.length_map ..
 have Ig:0≤st.tick∧st.tick≤1099511627776:=by omega
 have aT:=wC v (v.steps++[st]) C4 st.tick (by omega)
 have Rr:=og (v.steps++[st]) C4
 rw [←hZ] at aT Rr
 refine .inr ⟨v.steps.map gL,dX.refl _,by rw [Nl,oQ]; omega,by rw [oQ]; omega,?_⟩
 refine .inl ⟨[gL st],rfl,⟨rf,rf,rf,rf,rf,rf,rf,tv⟩,(by simp; rfl),.inr ⟨[gL st],dX.refl _,by rw [Nl,oQ]; simp; omega,by rw [oQ]; simp; omega,?_⟩⟩
 refine .inl (.inl ⟨_,fun _=>aT.ok,rfl,?_⟩)
 refine ⟨by kernel_rfl,fun hz=>?_,fun hz=>?_⟩
 ·have hz:=of_decide_eq_true hz
  rw [if_pos hz] at hE
  rw [hE,if_neg (by decide)]
  exact ⟨_,_,⟨rfl,rfl⟩,by kernel_rfl,⟨rf,tv⟩,⟨rfl,rfl⟩,tv⟩
 have hz:=of_decide_eq_false hz
 rw [if_neg hz] at hE
 rw [hE,if_pos rfl]
 refine .inl (.inr ⟨_,fun _=>Rr.ok,?_⟩)
 have OU:=wB C4
 refine ⟨Nat,Tn v st,fun i=>i≤(bk (v.steps++[st])).length,fun i=>(bk (v.steps++[st])).length - i,0,fun _=>rfl,⟨⟨rfl,rfl,?_,rf,rf,tv⟩,⟨⟨rfl,?_⟩,⟨rf,rf,rf,rf,rf,rf,rf,tv⟩,tv⟩,rfl,rfl⟩,by omega,?_⟩
 ·exact DV.Le.of_eq hZ
 ·show DV.cN (OT v)=DV.cN (OT { v with work:=v.work+(pD (v.steps++[st]) v.steps ((bk (v.steps++[st])).take 0):Nat) })
  rw [List.take_zero,show pD (v.steps++[st]) v.steps []=0 from rfl,show v.work+((0:Nat):Int)=v.work by omega]
 rintro i hi
 refine ⟨fun h=>?_,fun h=>?_⟩
 ·have hk:i<(bk (v.steps++[st])).length:=by simpa using h
  have hs:=List.getElem?_eq_getElem hk
  generalize (bk (v.steps++[st]))[i]=a at hs
  have fS:((bk (v.steps++[st])).map I)[((i:Int)).toNat]?=some (I a):=by rw [Int.toNat_natCast,List.getElem?_map,hs]; rfl
  have QJ:=AY (v.steps++[st]) v.steps ((bk (v.steps++[st])).take i)
  rw [List.length_take] at QJ
  refine ⟨Nat,QY v st i a,fun k=>k≤4,fun k=>4 - k,0,fun _=>rfl,⟨⟨rfl,rfl,rf,rf,rf,rf,tv⟩,⟨⟨rfl,rfl⟩,⟨rf,rf,rf,rf,rf,rf,rf,tv⟩,tv⟩,rfl,rfl⟩,by omega,?_⟩
  rintro k Aj
  refine ⟨fun h=>?_,fun h=>?_⟩
  ·have E4:k<4:=by have:=of_decide_eq_true h; omega
   have cC:=CI (fun k=>!decide (aL a (k:Nat) (v.steps++[st])=aL a (k:Nat) v.steps)) k
   have Nm:=uo (fun k=>!decide (aL a (k:Nat) (v.steps++[st])=aL a (k:Nat) v.steps)) k
   refine ⟨I a,fun _=>⟨by omega,fS⟩,?_⟩
   refine .inl ⟨_,fun _=>(eu (v.steps++[st]) a k C4).ok,?_⟩
   refine ⟨I a,fun _=>⟨by omega,fS⟩,?_⟩
   refine .inl ⟨_,fun _=>(eu v.steps a k hl).ok,?_⟩
   have aK:4 - (k+1)<4 - k:=by omega
   refine ⟨by kernel_rfl,fun hc=>?_,fun hc=>?_⟩
   ·have hc:(!decide (aL a (k:Nat) (v.steps++[st])=aL a (k:Nat) v.steps))=true:=hc
    rw [if_pos hc] at cC
    generalize hD:pD (v.steps++[st]) v.steps ((bk (v.steps++[st])).take i)=D at *
    generalize hC:(List.range k).countP (fun k=>!decide (aL a (k:Nat) (v.steps++[st])=aL a (k:Nat) v.steps))=C at *
    refine ⟨fun _=>⟨by show _≤v.work+((D+C:Nat):Int)+1; omega,by show v.work+((D+C:Nat):Int)+1≤_; omega⟩,?_⟩
    refine ⟨[I (v.work+((D+C:Nat):Int)+1)],⟨rf,tv⟩,?_⟩
    refine ⟨fun _=>⟨by omega,by omega⟩,k+1,⟨⟨rfl,rfl,rf,rf,rf,az (by omega),tv⟩,⟨⟨rfl,?_⟩,⟨rf,rf,rf,rf,rf,rf,rf,tv⟩,tv⟩,rfl,rfl⟩,by omega,aK⟩
    rw [hD,cC]
    show DV.cN (.agg [I 4,I v.coin,I v.ab,I v.aC,jJ v.steps,I (v.work+((D+C:Nat):Int)+1)])=DV.cN (.agg [I 4,I v.coin,I v.ab,I v.aC,jJ v.steps,I (v.work+((D+(C+1):Nat):Int))])
    rw [show v.work+((D+C:Nat):Int)+1=v.work+((D+(C+1):Nat):Int) by omega]
   ·have hc:(!decide (aL a (k:Nat) (v.steps++[st])=aL a (k:Nat) v.steps))=false:=hc
    rw [if_neg (by rw [hc]; simp)] at cC
    refine ⟨fun _=>⟨by omega,by omega⟩,k+1,⟨⟨rfl,rfl,rf,rf,rf,az (by omega),tv⟩,⟨⟨rfl,?_⟩,⟨rf,rf,rf,rf,rf,rf,rf,tv⟩,tv⟩,rfl,rfl⟩,by omega,aK⟩
    rw [cC]; rfl
  ·have E4:k=4:=by have:=of_decide_eq_false h; omega
   have cC:=CJ (f:=fun a=>Rv a (v.steps++[st]) v.steps) hs
   refine ⟨fun _=>⟨by omega,by omega⟩,i+1,⟨⟨rfl,rfl,rf,rf,az (by omega),tv⟩,⟨⟨rfl,?_⟩,⟨rf,rf,rf,rf,rf,rf,rf,tv⟩,tv⟩,rfl,rfl⟩,by omega,by show (bk (v.steps++[st])).length - (i+1)<(bk (v.steps++[st])).length - i; omega⟩
   rw [E4,show pD (v.steps++[st]) v.steps ((bk (v.steps++[st])).take (i+1))=pD (v.steps++[st]) v.steps ((bk (v.steps++[st])).take i)+(List.range 4).countP (fun k=>!decide (aL a (k:Nat) (v.steps++[st])=aL a (k:Nat) v.steps)) from cC]
 ·have hk:i=(bk (v.steps++[st])).length:=by
   have:¬ i<(bk (v.steps++[st])).length:=by simpa using h
   omega
  rw [hk,List.take_length]
  have ZQ:=AY (v.steps++[st]) v.steps (bk (v.steps++[st]))
  have Xc:pE v st={ v with steps:=v.steps++[st],work:=v.work+(pD (v.steps++[st]) v.steps (bk (v.steps++[st])):Int)+gI (bC v.coin st)+(bq v.coin v.ab v.steps (bZ v.steps):Int) - ((bq v.coin v.ab (v.steps++[st]) st.tick:Int) - gI (bC v.coin st)) }:=rfl
  generalize pD (v.steps++[st]) v.steps (bk (v.steps++[st]))=D at *
  have sn:=yP { v with work:=v.work+(D:Nat) } st
  rw [GW] at sn
  generalize iO v.coin st=q at sn
  refine .inl (.inl ⟨_,fun _=>sn.ok,rfl,?_⟩)
  have eZ:=AI v.coin v.ab v.steps (bZ v.steps)
  have nT:=AI v.coin v.ab (v.steps++[st]) st.tick
  have Xd:∀w,w+(bq v.coin v.ab v.steps (bZ v.steps):Int) - ((bq v.coin v.ab (v.steps++[st]) st.tick:Int) - gI (bC v.coin st))=(pE v st).work→OT (pE v st)=.agg [I 4,I v.coin,I v.ab,I v.aC,jJ (v.steps++[st]),I (w+(bq v.coin v.ab v.steps (bZ v.steps):Int) - ((bq v.coin v.ab (v.steps++[st]) st.tick:Int) - gI (bC v.coin st)))]:=fun w hw=>by rw [hw]; rfl
  have tL:0≤gI (bC v.coin st)∧gI (bC v.coin st)≤1:=by unfold gI; cases bC v.coin st <;> simp
  refine ⟨fun hb=>?_,fun hb=>?_⟩
  ·have hb:bC v.coin st=true:=hb
   refine ⟨fun _=>⟨by show _≤v.work+(D:Int)+1; omega,by show v.work+(D:Int)+1≤_; omega⟩,?_⟩
   refine ⟨[I (v.work+(D:Int)+1)],⟨rf,tv⟩,?_⟩
   refine .inl (.inl ⟨_,fun _=>(jm { v with work:=v.work+(D:Int)+1 } (by show v.steps.length≤1000; omega)).ok,rfl,?_⟩)
   refine .inl (.inl ⟨_,fun _=>(jK { v with work:=v.work+(D:Int)+1 } v.steps hl.1 (bZ v.steps) (by show _≤bZ v.steps - v.ab∧bZ v.steps - v.ab≤_; omega)).ok,rfl,?_⟩)
   refine ⟨fun _=>⟨by show _≤v.work+(D:Int)+1+(bq v.coin v.ab v.steps (bZ v.steps):Int); omega,by show v.work+(D:Int)+1+(bq v.coin v.ab v.steps (bZ v.steps):Int)≤_; omega⟩,?_⟩
   refine .inl (.inl ⟨_,fun _=>(jK { v with work:=v.work+(D:Int)+1 } (v.steps++[st]) C4.1 st.tick (by show _≤st.tick - v.ab∧st.tick - v.ab≤_; omega)).ok,rfl,?_⟩)
   refine .inl ⟨_,fun _=>(CH (bC v.coin st)).ok,?_⟩
   refine ⟨fun _=>⟨by show _≤(bq v.coin v.ab (v.steps++[st]) st.tick:Int) - gI (bC v.coin st); omega,by show (bq v.coin v.ab (v.steps++[st]) st.tick:Int) - gI (bC v.coin st)≤_; omega⟩,?_⟩
   refine ⟨fun _=>⟨by show _≤v.work+(D:Int)+1+(bq v.coin v.ab v.steps (bZ v.steps):Int) - ((bq v.coin v.ab (v.steps++[st]) st.tick:Int) - gI (bC v.coin st)); omega,by show v.work+(D:Int)+1+(bq v.coin v.ab v.steps (bZ v.steps):Int) - ((bq v.coin v.ab (v.steps++[st]) st.tick:Int) - gI (bC v.coin st))≤_; omega⟩,?_⟩
   refine ⟨[I (v.work+(D:Int)+1+(bq v.coin v.ab v.steps (bZ v.steps):Int) - ((bq v.coin v.ab (v.steps++[st]) st.tick:Int) - gI (bC v.coin st)))],⟨rf,tv⟩,?_⟩
   refine ⟨by kernel_rfl,?_⟩
   refine ⟨[jJ (v.steps++[st])],⟨rf,tv⟩,?_⟩
   refine ⟨_,_,⟨rfl,rfl⟩,by kernel_rfl,⟨rf,tv⟩,⟨rfl,?_⟩,tv⟩
   rw [Xd (v.work+(D:Int)+1) (by rw [Xc,hb]; simp [gI])]
   rfl
  ·have hb:bC v.coin st=false:=hb
   refine .inl (.inl ⟨_,fun _=>(jm { v with work:=v.work+(D:Int) } (by show v.steps.length≤1000; omega)).ok,rfl,?_⟩)
   refine .inl (.inl ⟨_,fun _=>(jK { v with work:=v.work+(D:Int) } v.steps hl.1 (bZ v.steps) (by show _≤bZ v.steps - v.ab∧bZ v.steps - v.ab≤_; omega)).ok,rfl,?_⟩)
   refine ⟨fun _=>⟨by show _≤v.work+(D:Int)+(bq v.coin v.ab v.steps (bZ v.steps):Int); omega,by show v.work+(D:Int)+(bq v.coin v.ab v.steps (bZ v.steps):Int)≤_; omega⟩,?_⟩
   refine .inl (.inl ⟨_,fun _=>(jK { v with work:=v.work+(D:Int) } (v.steps++[st]) C4.1 st.tick (by show _≤st.tick - v.ab∧st.tick - v.ab≤_; omega)).ok,rfl,?_⟩)
   refine .inl ⟨_,fun _=>(CH (bC v.coin st)).ok,?_⟩
   refine ⟨fun _=>⟨by show _≤(bq v.coin v.ab (v.steps++[st]) st.tick:Int) - gI (bC v.coin st); omega,by show (bq v.coin v.ab (v.steps++[st]) st.tick:Int) - gI (bC v.coin st)≤_; omega⟩,?_⟩
   refine ⟨fun _=>⟨by show _≤v.work+(D:Int)+(bq v.coin v.ab v.steps (bZ v.steps):Int) - ((bq v.coin v.ab (v.steps++[st]) st.tick:Int) - gI (bC v.coin st)); omega,by show v.work+(D:Int)+(bq v.coin v.ab v.steps (bZ v.steps):Int) - ((bq v.coin v.ab (v.steps++[st]) st.tick:Int) - gI (bC v.coin st))≤_; omega⟩,?_⟩
   refine ⟨[I (v.work+(D:Int)+(bq v.coin v.ab v.steps (bZ v.steps):Int) - ((bq v.coin v.ab (v.steps++[st]) st.tick:Int) - gI (bC v.coin st)))],⟨rf,tv⟩,?_⟩
   refine ⟨by kernel_rfl,?_⟩
   refine ⟨[jJ (v.steps++[st])],⟨rf,tv⟩,?_⟩
   refine ⟨_,_,⟨rfl,rfl⟩,by kernel_rfl,⟨rf,tv⟩,⟨rfl,?_⟩,tv⟩
   rw [Xd (v.work+(D:Int)) (by rw [Xc,hb]; simp [gI])]
   rfl
end Go.Proofs.YtpbdohkbiklflaaGreatDoor
namespace Go.Proofs.YtpbdohkbiklflaaGreatDoor
open Go.TM
variable [de]
def Uo:Vs:=I0 1 10 100
def mw:St:=⟨0,0,0,0,0,0,[⟨0,1,0,5⟩,⟨0,2,1,9⟩]⟩
def Em:St:=⟨0,2,0,4,0,0,[⟨1,2,0,3⟩,⟨2,1,1,7⟩]⟩
def A1:HM:=[((1,0),5),((2,1),9)]
def A2:HM:=[((1,0),2),((2,0),3),((2,1),2),((1,1),7)]
theorem NF (coin ab aC:Int) (hw:1≤ab∧ab≤1099511627776):Lq (I0 coin ab aC) [] 0 0:=by
 refine ⟨⟨List.nodup_nil,fun p hp=>(by cases hp),Nat.le_refl _,rfl,rfl,fun i hi=>?_,fun i hi=>?_⟩,⟨⟨rfl,rfl,fun p hp=>(by cases hp),fun i f l h=>?_,fun i f l h hf=>?_,by simp,fun p hp=>(by cases hp)⟩,Nat.le_refl _,fun p hp=>(by cases hp),fun i j x y hx=>by simp [cl] at hx,List.Pairwise.nil,fun p hp=>(by cases hp)⟩,hw,Int.le_refl _,⟨Int.le_refl _,Int.le_refl _⟩,fun p hp=>(by cases hp)⟩
 ·have:(I0 coin ab aC).rk.getD i (true,[])=(true,[]):=by
   obtain h | h | h | h:i=0 ∨ i=1 ∨ i=2 ∨ i=3:=by omega
   all_goals (subst h; rfl)
  rw [this]
  exact ⟨fun _=>rfl,List.Pairwise.nil,fun x=>by simp [I0,bm]⟩
 ·obtain h | h | h | h:i=0 ∨ i=1 ∨ i=2 ∨ i=3:=by omega
  all_goals (subst h; rfl)
 all_goals
  have hi:i<4:=(List.getElem?_eq_some_iff.1 h).1
  obtain h0 | h0 | h0 | h0:i=0 ∨ i=1 ∨ i=2 ∨ i=3:=by omega
  all_goals (subst h0; simp [I0] at h; simp [cl,h])
theorem f1:eS Uo [] mw=.ok A1:=by kernel_rfl
def RA:Vs:=cM Uo [] mw (aJ Uo A1)
def S1:SS:=oS Uo [] mw
theorem f2:eS RA S1 Em=.ok A2:=by kernel_rfl
def y4:Vs:=cM RA S1 Em (aJ RA A2)
def S2:SS:=oS RA S1 Em
theorem v1:Lq RA S1 8 1:=(AQ (NF 1 10 100 ⟨by omega,by omega⟩) (by omega) (by omega) mw (by simp [mw]) f1).1
theorem v2:Lq y4 S2 16 2:=(AQ v1 (by omega) (by omega) Em (by simp [Em]) f2).1
set_option maxRecDepth 100000
set_option maxHeartbeats 4000000 in
theorem wS:ct Tryz.prog 14 [] [B true]:=by
 have c0:=sx 1 10 100 rfl rfl
 have c1:=ss (NF 1 10 100 ⟨by omega,by omega⟩) (by omega) (by omega) mw (by simp [mw])
 have c2:=ss v1 (by omega) (by omega) Em (by simp [Em])
 rw [show eS (I0 1 10 100) [] mw=.ok A1 from f1] at c1
 rw [f2] at c2
 simp only at c1 c2
 have ew:y4.ab=10:=by kernel_rfl
 have VW:=tu y4 0 13 (by omega) (by kernel_rfl) (by rw [show y4.last=4 by kernel_rfl]; omega) [⟨4,3,7,3,7⟩] (by kernel_rfl) 0 (by omega) (by simp) (by rw [ew]; omega) (fun i y hi _=>by omega)
  (fun i y _ hy=>by have hy:=List.mem_of_getElem? hy; simp only [List.mem_singleton] at hy; subst hy; rw [ew]; simp only; omega) (fun y hy=>by simp only [List.mem_singleton] at hy; subst hy; simp only; omega)
 have VX:=tu y4 0 14 (by omega) (by kernel_rfl) (by rw [show y4.last=4 by kernel_rfl]; omega) [⟨4,3,7,3,7⟩] (by kernel_rfl) 1 (by simp) (by simp) (by rw [ew]; omega)
  (fun i y _ hy=>by have hy:=List.mem_of_getElem? hy; simp only [List.mem_singleton] at hy; subst hy; rw [ew]; simp only; omega) (fun i y hi hy=>by have:=(List.getElem?_eq_some_iff.1 hy).1; simp at this; omega) (fun y hy=>by simp only [List.mem_singleton] at hy; subst hy; simp only; omega)
 rw [show sy y4 0 [⟨4,3,7,3,7⟩] 0=([0,1,3,7,2],true) by kernel_rfl] at VW
 rw [show sy y4 0 [⟨4,3,7,3,7⟩] 1=([0,0,0,0,0],false) by kernel_rfl] at VX
 simp only at VW VX
 have t0:=wv y4 (by kernel_rfl) (fun x hx=>by
  obtain ⟨i,hi⟩:=List.getElem?_of_mem hx
  have hl:i<4:=by have:=(List.getElem?_eq_some_iff.1 hi).1; rw [show y4.rk.length=4 by kernel_rfl] at this; exact this
  have:=v2.bJ.rk i hl
  rw [List.getD_eq_getElem?_getD,hi] at this
  have h2:=Fa this
  have h3:=v2.bJ.len
  exact ⟨by simp only [Option.getD_some] at h2; omega,this.1⟩) 0 1 (by omega)
 rw [show Cy y4 0 1=[(2,3)] by kernel_rfl] at t0
 have z0:=sm y4 (by rw [show y4.H.length=4 by kernel_rfl,show y4.bL.length=1 by kernel_rfl]; omega)
 rw [show ((y4.H.length:Int)+(y4.bL.length:Int))=5 by kernel_rfl] at z0
 refine bp aG mixed (aq _) (ar _) Tryz.func14 rfl (by kernel_rfl) rfl ?_
 refine .inl ⟨_,fun _=>nE.ok,?_⟩
 refine .inr ⟨[],[tI (wj dF),.dv (I 1),.dv (I 10),.dv (I 100)],[],7,_,_,c0,by kernel_rfl,by kernel_rfl,⟨⟨rf,rf,rf,rf,tv⟩,rf,rf,rf,tv⟩,tv,?_⟩
 repeat first | refine ⟨id,?_⟩ | refine ⟨fun _ h=>cf h,?_⟩ | refine ⟨fun _ h=>ax h,?_⟩ | refine ⟨fun h=>⟨h,fun h2=>aQ h h2⟩,?_⟩ | refine ⟨fun h=>⟨h,fun h2=>aD h h2⟩,?_⟩
 refine ⟨fun h=>by simp at h,fun _=>?_⟩
 refine .inl ⟨[cD ⟨0,1,0,5⟩,cD ⟨0,2,1,9⟩],rfl,⟨rf,rf,rf,rf,rf,rf,rf,rf,rf,rf,tv⟩,(by simp; exact ⟨rfl,rfl⟩),.inr ⟨[4,1,2,5,3,6],[.ptr 0 0,AE mw],vK false (I0 1 10 100),9,_,_,c1,by kernel_rfl,by kernel_rfl,⟨rfl,⟨rf,rf,rf,rf,rf,rf,rf,tv⟩,tv⟩,⟨⟨rf,rf,rf,rf,rf,rf,rfl,rfl,rfl,rfl,rfl,tv⟩,⟨rfl,rfl⟩,⟨rfl,rfl⟩,⟨rfl,rfl⟩,⟨rfl,rfl⟩,⟨rfl,rfl⟩,tv⟩,?_⟩⟩
 refine .inl ⟨[cD ⟨1,2,0,3⟩,cD ⟨2,1,1,7⟩],rfl,⟨rf,rf,rf,rf,rf,rf,rf,rf,rf,rf,tv⟩,(by simp; exact ⟨rfl,rfl⟩),.inr ⟨[4,1,2,5,3,6],[.ptr 0 0,AE Em],vK false RA,9,_,_,c2,by kernel_rfl,by kernel_rfl,⟨rfl,⟨rf,rf,rf,rf,rf,rf,rf,tv⟩,tv⟩,⟨⟨rf,rf,rf,rf,rf,rf,rfl,rfl,rfl,rfl,rfl,tv⟩,⟨rfl,rfl⟩,⟨rfl,rfl⟩,⟨rfl,rfl⟩,⟨rfl,rfl⟩,⟨rfl,rfl⟩,tv⟩,?_⟩⟩
 refine .inr ⟨[4,1,2,5,3,6],[.ptr 0 0,.dv (I 0),.dv (I 13)],vK false y4,0,_,_,VW,by kernel_rfl,by kernel_rfl,⟨rfl,rf,rf,tv⟩,⟨⟨rf,rf,rf,rf,rf,rf,rfl,rfl,rfl,rfl,rfl,tv⟩,⟨rfl,rfl⟩,⟨rfl,rfl⟩,⟨rfl,rfl⟩,⟨rfl,rfl⟩,⟨rfl,rfl⟩,tv⟩,?_⟩
 refine .inr ⟨[4,1,2,5,3,6],[.ptr 0 0,.dv (I 0),.dv (I 14)],vK false y4,0,_,_,VX,by kernel_rfl,by kernel_rfl,⟨rfl,rf,rf,tv⟩,⟨⟨rf,rf,rf,rf,rf,rf,rfl,rfl,rfl,rfl,rfl,tv⟩,⟨rfl,rfl⟩,⟨rfl,rfl⟩,⟨rfl,rfl⟩,⟨rfl,rfl⟩,⟨rfl,rfl⟩,tv⟩,?_⟩
 refine .inr ⟨[4,1,2,5,3,6],[.ptr 0 0,.dv (I 0),.dv (I 1)],vK false y4,0,_,_,t0,by kernel_rfl,by kernel_rfl,⟨rfl,rf,rf,tv⟩,⟨⟨rf,rf,rf,rf,rf,rf,rfl,rfl,rfl,rfl,rfl,tv⟩,⟨rfl,rfl⟩,⟨rfl,rfl⟩,⟨rfl,rfl⟩,⟨rfl,rfl⟩,⟨rfl,rfl⟩,tv⟩,?_⟩
 repeat first | refine ⟨id,?_⟩ | refine ⟨fun _ h=>cf h,?_⟩ | refine ⟨fun _ h=>ax h,?_⟩ | refine ⟨fun h=>⟨h,fun h2=>aQ h h2⟩,?_⟩ | refine ⟨fun h=>⟨h,fun h2=>aD h h2⟩,?_⟩
 refine ⟨eR (2,3),fun _=>⟨by omega,rfl⟩,?_⟩
 repeat first | refine ⟨id,?_⟩ | refine ⟨fun _ h=>cf h,?_⟩ | refine ⟨fun _ h=>ax h,?_⟩ | refine ⟨fun h=>⟨h,fun h2=>aQ h h2⟩,?_⟩ | refine ⟨fun h=>⟨h,fun h2=>aD h h2⟩,?_⟩
 refine ⟨eR (2,3),fun _=>⟨by omega,rfl⟩,?_⟩
 repeat first | refine ⟨id,?_⟩ | refine ⟨fun _ h=>cf h,?_⟩ | refine ⟨fun _ h=>ax h,?_⟩ | refine ⟨fun h=>⟨h,fun h2=>aQ h h2⟩,?_⟩ | refine ⟨fun h=>⟨h,fun h2=>aD h h2⟩,?_⟩
 refine .inr ⟨[4,1,2,5,3,6],[.ptr 0 0],vK false y4,0,_,_,z0,by kernel_rfl,by kernel_rfl,⟨rfl,tv⟩,⟨⟨rf,rf,rf,rf,rf,rf,rfl,rfl,rfl,rfl,rfl,tv⟩,⟨rfl,rfl⟩,⟨rfl,rfl⟩,⟨rfl,rfl⟩,⟨rfl,rfl⟩,⟨rfl,rfl⟩,tv⟩,?_⟩
 exact ⟨by kernel_rfl,fun _=>rfl,fun _ _=>by kernel_rfl,DV.Le.of_eq (by kernel_rfl),tv⟩
end Go.Proofs.YtpbdohkbiklflaaGreatDoor
