import Derived.Test.YtccialgeakmmpaaGreatDoorEM19
set_option linter.unusedVariables false
set_option linter.unusedSimpArgs false
set_option linter.unusedSectionVars false
namespace Go.Proofs.YtccialgeakmmpaaGreatDoor
open Go.TM
def cmpI (a b:Int):Int:=if a<b then -1 else if b<a then 1 else 0
def cmpK (a b:Ky):Int:=if cmpI a.1 b.1=0 then cmpI a.2 b.2 else cmpI a.1 b.1
def insAt:List Ky→Nat→List Ky
 | l,0=>l
 | l,j+1=>match l[j]?,l[j+1]? with
  | some a,some b=>if cmpK b a<0 then insAt ((l.set (j+1) a).set j b) j else l
  | _,_=>l
def isortN (l:List Ky):Nat→List Ky
 | 0=>l
 | k+1=>insAt (isortN l k) (k+1)
theorem insAt_len:∀(j:Nat) (l:List Ky),(insAt l j).length=l.length
 | 0,l=>rfl
 | j+1,l=>by
  simp only [insAt]
  split
  ·split
   ·rw [insAt_len j]; simp
   ·rfl
  ·rfl
theorem isortN_len (l:List Ky):∀k,(isortN l k).length=l.length
 | 0=>rfl
 | k+1=>by simp only [isortN]; rw [insAt_len,isortN_len l k]
variable [KObj]
theorem isNaN_spec (a:Int):PSpec Tryz.prog 137 [I a] [B false]:=by
 refine pspec_of tab_ok mixed (calls_snd _) (range_snd _) Tryz.func137 rfl (by kernel_rfl) rfl ?_
 exact ⟨DV.Le.of_eq (by simp),tv⟩
theorem cmpI_spec (a b:Int):PSpec Tryz.prog 79 [I a,I b] [I (cmpI a b)]:=by
 refine pspec_of tab_ok mixed (calls_snd _) (range_snd _) Tryz.func79 rfl (by kernel_rfl) rfl ?_
 refine .inl ⟨_,fun _=>(isNaN_spec a).ok,?_⟩
 refine .inl ⟨_,fun _=>(isNaN_spec b).ok,?_⟩
 refine ⟨(fun h=>by cases h),fun _=>⟨(fun h=>by cases h),fun _=>⟨fun h=>?_,fun h=>⟨fun h2=>?_,fun h2=>?_⟩⟩⟩⟩
 ·have h:a<b:=of_decide_eq_true h
  exact ⟨le_int (by simp [cmpI,h]),tv⟩
 ·have h:¬ a<b:=of_decide_eq_false h
  have h2:b<a:=of_decide_eq_true h2
  exact ⟨le_int (by simp [cmpI,h,h2]),tv⟩
 ·have h:¬ a<b:=of_decide_eq_false h
  have h2:¬ b<a:=of_decide_eq_false h2
  exact ⟨le_int (by simp [cmpI,h,h2]),tv⟩
theorem or_spec (a b:Int):PSpec Tryz.prog 78 [Ints [a,b]] [I (if a=0 then b else a)]:=by
 refine pspec_of tab_ok mixed (calls_snd _) (range_snd _) Tryz.func78 rfl (by kernel_rfl) rfl ?_
 refine ⟨Nat,fun j=>⟨0,[(0,.dv (Ints [a,b])),(3,.dv (I 0)),(6,.dv (Ints [a,b])),(7,.dv (I 2)),(8,.dv (I j))],[]⟩,fun j=>j≤2∧(1≤j→a=0)∧(2≤j→b=0),fun j=>2 - j,0,fun _=>rfl,⟨⟨rf,rf,rf,rf,rf,tv⟩,tv,rfl,rfl⟩,⟨by omega,by omega,by omega⟩,?_⟩
 rintro j ⟨h1,h2,h3⟩
 refine ⟨fun h=>?_,fun h=>?_⟩
 ·have h:(j:Int)<2:=of_decide_eq_true h
  obtain rfl | rfl:j=0 ∨ j=1:=by omega
  ·refine ⟨I a,fun _=>⟨by simp,rfl⟩,fun h=>?_,fun h=>⟨fun _=>⟨by omega,by omega⟩,1,⟨⟨rf,rf,rf,rf,le_int (by omega),tv⟩,tv,rfl,rfl⟩,⟨by omega,fun _=>by simpa using h,by omega⟩,by decide⟩⟩
   have h:¬ a=0:=by simpa using h
   exact ⟨le_int (by simp [h]),tv⟩
  ·refine ⟨I b,fun _=>⟨by simp,rfl⟩,fun h=>?_,fun h=>⟨fun _=>⟨by omega,by omega⟩,2,⟨⟨rf,rf,rf,rf,le_int (by omega),tv⟩,tv,rfl,rfl⟩,⟨by omega,fun _=>h2 (by omega),fun _=>by simpa using h⟩,by decide⟩⟩
   have ha:=h2 (by omega)
   exact ⟨le_int (by simp [ha]),tv⟩
 ·have h:¬ (j:Int)<2:=of_decide_eq_false h
  have ha:=h2 (by omega)
  have hb:=h3 (by omega)
  exact ⟨le_int (by simp [ha,hb]),tv⟩
theorem cmpK_spec (a b:Ky):PSpec Tryz.prog 45 [eKy a,eKy b] [I (cmpK a b)]:=by
 refine pspec_of tab_ok mixed (calls_snd _) (range_snd _) Tryz.func45 rfl (by kernel_rfl) rfl ?_
 refine .inl ⟨_,fun _=>(cmpI_spec a.1 b.1).ok,?_⟩
 refine .inl ⟨_,fun _=>(cmpI_spec a.2 b.2).ok,?_⟩
 refine .inl ⟨[I (cmpI a.1 b.1),I (cmpI a.2 b.2)],rfl,⟨rf,rf,tv⟩,(by simp [DV.cells]; rfl),?_⟩
 refine .inl ⟨_,fun _=>(or_spec (cmpI a.1 b.1) (cmpI a.2 b.2)).ok,?_⟩
 exact ⟨by kernel_rfl,rf,tv⟩
structure InI2 where
 j:Nat
 c:List Ky
set_option maxRecDepth 100000
set_option maxHeartbeats 4000000 in
theorem insSort_spec (l:List Ky) (hl:l.length≤1000):CSpec Tryz.prog 143 [.own 0 0 0 [],.dv (I 0),.dv (I l.length),.dv (.fn 45 [])] 1 [(0,.tree 0 0 (.osl 2 (l.map eKy)))] 0 [] [(0,.tree 0 0 (.osl 2 ((isortN l (l.length - 1)).map eKy)))]:=by
 refine cspec_of tab_ok mixed (calls_snd _) (range_snd _) Tryz.func143 rfl rfl (by kernel_rfl) ?_
 refine ⟨fun _=>⟨by omega,by omega⟩,?_⟩
 refine ⟨Nat,fun k=>⟨1,[(0,.own 0 0 0 []),(1,.dv (I 0)),(2,.dv (I l.length)),(3,.dv (.fn 45 [])),(8,.dv (I (1+k)))],[(0,.tree 0 0 (.osl 2 ((isortN l k).map eKy)))]⟩,fun k=>k≤l.length - 1,fun k=>l.length - k,0,fun _=>rfl,⟨⟨rfl,rf,rf,rf,rf,tv⟩,⟨⟨rfl,rfl⟩,tv⟩,rfl,rfl⟩,by omega,?_⟩
 intro k hk
 refine ⟨fun h=>?_,fun h=>?_⟩
 ·have hkl:1+k<l.length:=by
   have:(1+(k:Int))<l.length:=of_decide_eq_true h
   omega
  clear h
  have hcl:=isortN_len l k
  refine ⟨InI2,fun z=>⟨1,[(0,.own 0 0 0 []),(1,.dv (I 0)),(2,.dv (I l.length)),(3,.dv (.fn 45 [])),(8,.dv (I (1+k))),(9,.dv (I z.j))],[(0,.tree 0 0 (.osl 2 (z.c.map eKy)))]⟩,fun z=>z.j≤k+1∧z.c.length=l.length∧insAt z.c z.j=isortN l (k+1),fun z=>z.j,⟨k+1,isortN l k⟩,fun _=>rfl,⟨⟨rfl,rf,rf,rf,rf,le_int (by simp; omega),tv⟩,⟨⟨rfl,rfl⟩,tv⟩,rfl,rfl⟩,⟨by simp,hcl,rfl⟩,?_⟩
  rintro ⟨j,c⟩ ⟨hj1,hj2,hj3⟩
  dsimp only at hj1 hj2 hj3
  cases j with
  | zero =>
   refine ⟨id,id,(fun h=>by cases h),id,eKy (0,0),(fun h=>by cases h),?_⟩
   refine ⟨id,(fun h=>by cases h),id,id,(fun h=>by cases h),id,eKy (0,0),(fun h=>by cases h),?_⟩
   refine ⟨id,id,id,.inl ⟨[I 0],(fun h=>by cases h),.inl ⟨id,fun _ h=>bw_t h,by kernel_rfl,(fun h=>by cases h),fun _=>?_⟩⟩⟩
   exact ⟨fun _=>⟨by omega,by omega⟩,k+1,⟨⟨rfl,rf,rf,rf,le_int (by omega),tv⟩,⟨⟨rfl,by rw [←hj3]; rfl⟩,tv⟩,rfl,rfl⟩,by omega,by dsimp only; omega⟩
  | succ j =>
   obtain ⟨b,hb⟩:∃b,c[j+1]?=some b:=⟨_,List.getElem?_eq_getElem (by omega)⟩
   obtain ⟨a,ha⟩:∃a,c[j]?=some a:=⟨_,List.getElem?_eq_getElem (by omega)⟩
   have e1:(((j+1:Nat):Int)).toNat=j+1:=by omega
   have e2:(((j+1:Nat):Int) - 1).toNat=j:=by omega
   refine ⟨id,id,fun _=>⟨by dsimp only; omega,by dsimp only; simp; omega⟩,id,eKy b,fun _=>by dsimp only; rw [e1,List.getElem?_map,hb]; rfl,?_⟩
   refine ⟨id,fun _=>⟨by dsimp only; omega,by dsimp only; omega⟩,id,id,fun _=>⟨by dsimp only; omega,by dsimp only; simp; omega⟩,id,eKy a,fun _=>by dsimp only; rw [e2,List.getElem?_map,ha]; rfl,?_⟩
   refine ⟨id,id,id,.inl ⟨_,fun _=>(cmpK_spec b a).ok,.inl ⟨id,fun _ h=>bw_t h,by kernel_rfl,fun h=>?_,fun h=>?_⟩⟩⟩
   ·obtain ⟨-,h2⟩:=bif_t h
    have hlt:cmpK b a<0:=of_decide_eq_true h2
    clear h h2
    have hins:insAt c (j+1)=insAt ((c.set (j+1) a).set j b) j:=by simp only [insAt,ha,hb,if_pos hlt]
    have hm2:(c.set (j+1) a)[j]?=some a:=by rw [List.getElem?_set,if_neg (by omega),ha]
    have har:true=true→-9223372036854775808≤(((j+1:Nat):Int)) - 1∧(((j+1:Nat):Int)) - 1≤9223372036854775807:=fun _=>⟨by omega,by omega⟩
    refine ⟨har,har,fun _=>⟨by dsimp only; omega,by dsimp only; simp; omega⟩,eKy a,fun _=>by dsimp only; rw [e2,List.getElem?_map,ha]; rfl,?_⟩
    refine ⟨fun _=>⟨by dsimp only; omega,by dsimp only; simp; omega⟩,eKy b,fun _=>by dsimp only; rw [e1,List.getElem?_map,hb]; rfl,?_⟩
    refine ⟨fun _=>⟨by dsimp only; omega,by dsimp only; simp; omega⟩,[I a.1,I a.2],⟨rf,rf,tv⟩,eKy b,(by dsimp only; rw [e1,List.getElem?_map,hb]; rfl),?_⟩
    refine ⟨fun _=>⟨by dsimp only; omega,by dsimp only; simp; omega⟩,[I b.1,I b.2],⟨rf,rf,tv⟩,eKy a,?_,by kernel_rfl,?_⟩
    ·show ((c.map eKy).set (((j+1:Nat):Int)).toNat (eKy a))[(((j+1:Nat):Int) - 1).toNat]?=some (eKy a)
     rw [e1,e2,←List.map_set,List.getElem?_map,hm2]; rfl
    refine ⟨fun _=>⟨by dsimp only; omega,by dsimp only; omega⟩,⟨j,(c.set (j+1) a).set j b⟩,⟨⟨rfl,rf,rf,rf,rf,le_int (by dsimp only; omega),tv⟩,⟨⟨rfl,?_⟩,tv⟩,rfl,rfl⟩,⟨by dsimp only; omega,by simp [hj2],by dsimp only; rw [←hins]; exact hj3⟩,by dsimp only; omega⟩
    show DV.osl 2 (((c.map eKy).set (((j+1:Nat):Int)).toNat (eKy a)).set (((j+1:Nat):Int) - 1).toNat (eKy b))=.osl 2 (((c.set (j+1) a).set j b).map eKy)
    rw [e1,e2,List.map_set,List.map_set]
   ·have hlt:¬ cmpK b a<0:=fun hlt=>by
     have:=bif_f h
     exact this ⟨by first | simp | (simp; omega),decide_eq_true hlt⟩
    have hins:insAt c (j+1)=c:=by simp only [insAt,ha,hb,if_neg hlt]
    exact ⟨fun _=>⟨by omega,by omega⟩,k+1,⟨⟨rfl,rf,rf,rf,le_int (by omega),tv⟩,⟨⟨rfl,by rw [←hj3,hins]⟩,tv⟩,rfl,rfl⟩,by omega,by dsimp only; omega⟩
 ·have hke:k=l.length - 1:=by
   have:¬ (1+(k:Int))<l.length:=of_decide_eq_false h
   omega
  subst hke
  exact ⟨_,_,⟨rfl,rfl⟩,by kernel_rfl,tv,⟨rfl,rfl⟩,tv⟩
def lens:List Int:=[0,1,2,2,3,3,3,3,4,4,4,4,4]
theorem upto12 {m:Nat} (h:m≤12):m=0 ∨ m=1 ∨ m=2 ∨ m=3 ∨ m=4 ∨ m=5 ∨ m=6 ∨ m=7 ∨ m=8 ∨ m=9 ∨ m=10 ∨ m=11 ∨ m=12:=by omega
set_option maxHeartbeats 4000000 in
theorem len64_spec (m:Nat) (hm:m≤12):PSpec Tryz.prog 152 [.int .u64 m] [I (lens.getD m 0)]:=by
 refine pspec_of tab_ok mixed (calls_snd _) (range_snd _) Tryz.func152 rfl (by kernel_rfl) rfl ?_
 obtain rfl | rfl | rfl | rfl | rfl | rfl | rfl | rfl | rfl | rfl | rfl | rfl | rfl:=upto12 hm
 all_goals
  refine ⟨(fun h=>by cases h),fun _=>⟨(fun h=>by cases h),fun _=>⟨(fun h=>by cases h),fun _=>?_⟩⟩⟩
  exact ⟨_,fun _=>⟨by decide,rfl⟩,fun _=>⟨by decide,by decide⟩,le_int (by decide),tv⟩
theorem len_spec (m:Nat) (hm:m≤12):PSpec Tryz.prog 92 [.int .u64 m] [I (lens.getD m 0)]:=by
 refine pspec_of tab_ok mixed (calls_snd _) (range_snd _) Tryz.func92 rfl (by kernel_rfl) rfl ?_
 exact ⟨(fun h=>by cases h),fun _=>.inl ⟨_,fun _=>(len64_spec m hm).ok,rf,tv⟩⟩
set_option maxHeartbeats 4000000 in
theorem pdq_spec (l:List Ky) (hl:l.length≤12) (q:Int):CSpec Tryz.prog 91 [.own 0 0 0 [],.dv (I 0),.dv (I l.length),.dv (I q),.dv (.fn 45 [])] 1 [(0,.tree 0 0 (.osl 2 (l.map eKy)))] 0 [] [(0,.tree 0 0 (.osl 2 ((isortN l (l.length - 1)).map eKy)))]:=by
 refine cspec_of tab_ok mixed (calls_snd _) (range_snd _) Tryz.func91 rfl rfl (by kernel_rfl) ?_
 refine ⟨Unit,fun _=>⟨1,[(0,.own 0 0 0 []),(1,.dv (I 0)),(2,.dv (I l.length)),(4,.dv (.fn 45 []))],[(0,.tree 0 0 (.osl 2 (l.map eKy)))]⟩,fun _=>True,fun _=>0,(),fun _=>rfl,⟨⟨rfl,rf,rf,rf,tv⟩,⟨⟨rfl,rfl⟩,tv⟩,rfl,rfl⟩,tv,?_⟩
 intro _ _
 refine ⟨fun _=>⟨by omega,by omega⟩,fun _=>?_,fun h=>?_⟩
 ·refine .inr ⟨[0],[.own 0 0 0 [],.dv (I 0),.dv (I l.length),.dv (.fn 45 [])],[(0,.tree 0 0 (.osl 2 (l.map eKy)))],0,_,_,insSort_spec l (by omega),by kernel_rfl,by kernel_rfl,⟨rfl,rf,rf,rf,tv⟩,⟨⟨rfl,rfl⟩,tv⟩,?_⟩
  exact ⟨_,_,⟨rfl,rfl⟩,by kernel_rfl,tv,⟨rfl,rfl⟩,tv⟩
 ·exfalso
  have h:¬ (l.length:Int) - 0≤12:=of_decide_eq_false h
  omega
set_option maxHeartbeats 4000000 in
theorem sort_spec (l:List Ky) (hl:l.length≤12):CSpec Tryz.prog 59 [.own 0 0 0 [],.dv (.fn 45 [])] 1 [(0,.tree 0 0 (.osl 2 (l.map eKy)))] 0 [] [(0,.tree 0 0 (.osl 2 ((isortN l (l.length - 1)).map eKy)))]:=by
 refine cspec_of tab_ok mixed (calls_snd _) (range_snd _) Tryz.func59 rfl rfl (by kernel_rfl) ?_
 have hwr:IntKind.u64.wrap ((l.map eKy).length:Int)=(l.length:Int):=by
  rw [List.length_map]
  obtain h | h | h | h | h | h | h | h | h | h | h | h | h:=upto12 hl <;> rw [h] <;> decide
 have hok:CallOk Tryz.prog 92 [.int .u64 (IntKind.u64.wrap ((l.map eKy).length:Int))] [I (lens.getD l.length 0)]:=by
  rw [hwr]; exact (len_spec l.length hl).ok
 refine .inl ⟨_,fun _=>hok,?_⟩
 have hp:=pdq_spec l hl (lens.getD l.length 0)
 refine .inr ⟨[0],[.own 0 0 0 [],.dv (I 0),.dv (I l.length),.dv (I (lens.getD l.length 0)),.dv (.fn 45 [])],[(0,.tree 0 0 (.osl 2 (l.map eKy)))],0,_,_,hp,by kernel_rfl,by kernel_rfl,⟨rfl,rf,le_int (by simp),rf,rf,tv⟩,⟨⟨rfl,rfl⟩,tv⟩,?_⟩
 exact ⟨_,_,⟨rfl,rfl⟩,by kernel_rfl,tv,⟨rfl,rfl⟩,tv⟩
end Go.Proofs.YtccialgeakmmpaaGreatDoor
namespace Go.Proofs.YtccialgeakmmpaaGreatDoor
open Go.TM
variable [KObj]
def odel:OM→Ky→OM
 | [],_=>[]
 | p::r,k=>if p.1=k then r else p::odel r k
theorem mdel_ky (k:Ky):∀m:OM,mdel (m.map eEnt) (eKy k)=(odel m k).map eEnt
 | []=>rfl
 | p::r=>by
  simp only [List.map_cons,eEnt,mdel,keq_ky,odel]
  by_cases h:p.1=k
  ·simp [h,eEnt]
  ·simp only [h,decide_false,cond_false,if_false,List.map_cons]
   have:=mdel_ky k r
   rw [this]
   rfl
theorem odel_none {k:Ky}:∀{m:OM},oget m k=none→odel m k=m
 | [],_=>rfl
 | p::r,h=>by
  simp only [oget] at h
  simp only [odel]
  by_cases e:p.1=k
  ·simp [e] at h
  ·simp only [e,if_false] at h ⊢
   rw [odel_none h]
set_option maxRecDepth 100000
set_option maxHeartbeats 4000000 in
theorem remove_spec (its:List Item) (m:OM) (k:Ky):CSpec Tryz.prog 33 [.ptr 0 0,ofD (eKy k)] 2 (stK its m) 0 [ofD (eOb ((oget m k).getD Ob.zero)),.dv (I (if (oget m k).isSome then 0 else 7))] (stK its (odel m k)):=by
 refine cspec_of tab_ok mixed (calls_snd _) (range_snd _) Tryz.func33 rfl rfl (by kernel_rfl) ?_
 refine ⟨keyTI,eKy k,rfl,rfl,eOb ((oget m k).getD Ob.zero),(oget m k).isSome,fun _=>mget_b m k,mget_z,rfl,?_⟩
 refine ⟨by kernel_rfl,fun h=>?_,fun h=>?_⟩
 ·have e:oget m k=none:=by
   cases hq:oget m k with
   | none=>rfl
   | some x=>simp [hq] at h
  rw [odel_none e,e]
  exact ⟨_,_,⟨rfl,rfl⟩,by kernel_rfl,⟨⟨rf,rf,rf,rf,tv⟩,rf,tv⟩,⟨rf,rf,rf,rf,rfl,tv⟩,⟨rfl,rfl⟩,tv⟩
 ·have e:(oget m k).isSome=true:=by cases hq:(oget m k).isSome <;> simp_all
  refine ⟨keyTI,eKy k,rfl,rfl,by kernel_rfl,?_⟩
  refine ⟨_,_,⟨rfl,rfl⟩,by kernel_rfl,⟨⟨rf,rf,rf,rf,tv⟩,?_,tv⟩,⟨rf,rf,rf,rf,rfl,tv⟩,⟨rfl,?_⟩,tv⟩
  ·rw [e]; exact rf
  ·rw [←mdel_ky]
end Go.Proofs.YtccialgeakmmpaaGreatDoor
namespace Go.Proofs.YtccialgeakmmpaaGreatDoor
open Go.TM
def kle (a b:Ky):Prop:=a.1<b.1 ∨ a.1=b.1∧a.2≤b.2
def klt (a b:Ky):Prop:=a.1<b.1 ∨ a.1=b.1∧a.2<b.2
theorem cmpI_neg {a b:Int}:cmpI a b<0 ↔ a<b:=by
 unfold cmpI
 split
 ·simp [*]
 ·split <;> simp <;> omega
theorem cmpI_zero {a b:Int}:cmpI a b=0 ↔ a=b:=by
 unfold cmpI
 split
 ·simp; omega
 ·split <;> simp <;> omega
theorem cmpK_neg {a b:Ky}:cmpK a b<0 ↔ klt a b:=by
 unfold cmpK klt
 by_cases h:cmpI a.1 b.1=0
 ·rw [if_pos h,cmpI_neg]
  have:=cmpI_zero.1 h
  omega
 ·rw [if_neg h,cmpI_neg]
  have:¬ a.1=b.1:=fun e=>h (cmpI_zero.2 e)
  omega
theorem swap_form {l:List Ky} {j:Nat} {a b:Ky} (ha:l[j]?=some a) (hb:l[j+1]?=some b):∃p q,l=p++a::b::q∧p.length=j∧(l.set (j+1) a).set j b=p++b::a::q:=by
 have hj:j+1<l.length:=(List.getElem?_eq_some_iff.1 hb).1
 refine ⟨l.take j,l.drop (j+2),?_,by simp; omega,?_⟩
 ·have h1:=List.drop_eq_getElem_cons (show j<l.length by omega)
  have h2:=List.drop_eq_getElem_cons hj
  rw [List.getElem?_eq_getElem (by omega)] at ha hb
  injection ha with ha; injection hb with hb
  rw [ha] at h1; rw [hb] at h2
  rw [show j+2=j+1+1 from rfl,←h2,←h1,List.take_append_drop]
 ·have h1:=List.drop_eq_getElem_cons (show j<l.length by omega)
  have h2:=List.drop_eq_getElem_cons hj
  rw [List.getElem?_eq_getElem (by omega)] at ha hb
  injection ha with ha; injection hb with hb
  rw [ha] at h1; rw [hb] at h2
  have e:l=l.take j++a::b::l.drop (j+2):=by rw [show j+2=j+1+1 from rfl,←h2,←h1,List.take_append_drop]
  generalize hp:l.take j=p at *
  generalize hq:l.drop (j+2)=q at *
  have hpl:p.length=j:=by rw [←hp]; simp; omega
  rw [e,List.set_append_right _ _ (by omega),hpl,show j+1 - j=1 by omega,List.set_append_right _ _ (by omega),hpl,Nat.sub_self]
  rfl
theorem insAt_perm:∀(j:Nat) (l:List Ky),(insAt l j).Perm l
 | 0,l=>.refl _
 | j+1,l=>by
  simp only [insAt]
  split
  ·rename_i a b ha hb
   split
   ·obtain ⟨p,q,h1,h2,h3⟩:=swap_form ha hb
    refine (insAt_perm j _).trans ?_
    rw [h3]
    conv=>rhs; rw [h1]
    exact List.Perm.append_left p (List.Perm.swap a b q)
   ·exact .refl _
  ·exact .refl _
theorem isortN_perm (l:List Ky):∀k,(isortN l k).Perm l
 | 0=>.refl _
 | k+1=>(insAt_perm _ _).trans (isortN_perm l k)
abbrev at' (l:List Ky) (i:Nat):Ky:=l.getD i (0,0)
theorem at_set {l:List Ky} {k i:Nat} {x:Ky} (hk:k<l.length):at' (l.set k x) i=if i=k then x else at' l i:=by
 unfold at'
 rw [List.getD_eq_getElem?_getD,List.getD_eq_getElem?_getD,List.getElem?_set]
 by_cases h:k=i
 ·subst h; simp [hk]
 ·rw [if_neg h,if_neg (fun e=>h e.symm)]
theorem at_some {l:List Ky} {i:Nat} {a:Ky} (h:l[i]?=some a):at' l i=a:=by
 unfold at'; rw [List.getD_eq_getElem?_getD,h]; rfl
structure Near' (l:List Ky) (j m:Nat):Prop where
 adj:∀i,i+1<m→i+1 ≠ j→kle (at' l i) (at' l (i+1))
 skip:∀i,i+1=j→j+1<m→kle (at' l i) (at' l (j+1))
theorem insAt_sorted:∀(j:Nat) (l:List Ky) (m:Nat),j<m→m≤l.length→Near' l j m→∀i,i+1<m→kle (at' (insAt l j) i) (at' (insAt l j) (i+1))
 | 0,l,m,_,_,h=>fun i hi=>h.adj i hi (by omega)
 | j+1,l,m,hj,hm,h=>by
  obtain ⟨a,ha⟩:∃a,l[j]?=some a:=⟨_,List.getElem?_eq_getElem (by omega)⟩
  obtain ⟨b,hb⟩:∃b,l[j+1]?=some b:=⟨_,List.getElem?_eq_getElem (by omega)⟩
  have hA:=at_some ha
  have hB:=at_some hb
  by_cases hlt:cmpK b a<0
  ·have e:insAt l (j+1)=insAt ((l.set (j+1) a).set j b) j:=by simp only [insAt,ha,hb,if_pos hlt]
   rw [e]
   have hl1:j+1<l.length:=by omega
   have hba:=cmpK_neg.1 hlt
   have hat:∀i,at' ((l.set (j+1) a).set j b) i=if i=j then b else if i=j+1 then a else at' l i:=fun i=>by
    rw [at_set (by simp; omega),at_set hl1]
   refine insAt_sorted j _ m (by omega) (by simpa using hm) ⟨fun i hi hne=>?_,fun i hij hjm=>?_⟩
   ·rw [hat,hat]
    by_cases h1:i=j
    ·subst h1
     rw [if_pos rfl,if_neg (by omega),if_pos rfl]
     unfold kle; unfold klt at hba; omega
    ·by_cases h2:i=j+1
     ·subst h2
      have:=h.skip j rfl hi
      rw [hA] at this
      rw [if_neg (by omega),if_pos rfl,if_neg (by omega),if_neg (by omega)]
      exact this
     ·rw [if_neg h1,if_neg h2,if_neg hne,if_neg (by omega)]
      exact h.adj i hi (by omega)
   ·rw [hat,hat,if_neg (by omega),if_neg (by omega),if_neg (by omega),if_pos rfl]
    have:=h.adj i (by omega) (by omega)
    rw [hij,hA] at this
    exact this
  ·have e:insAt l (j+1)=l:=by simp only [insAt,ha,hb,if_neg hlt]
   rw [e]
   have hba:¬ klt b a:=fun hh=>hlt (cmpK_neg.2 hh)
   intro i hi
   by_cases hij:i=j
   ·subst hij; rw [hA,hB]; unfold kle; unfold klt at hba; omega
   ·exact h.adj i hi (by omega)
theorem isortN_sorted (l:List Ky):∀k,k<l.length→∀i,i+1<k+1→kle (at' (isortN l k) i) (at' (isortN l k) (i+1))
 | 0,_,i,hi=>by omega
 | k+1,hk,i,hi=>by
  have ih:=isortN_sorted l k (by omega)
  refine insAt_sorted (k+1) (isortN l k) (k+2) (by omega) (by rw [isortN_len]; omega) ⟨fun i hi hne=>ih i (by omega),fun i hij h=>by omega⟩ i hi
theorem klt_of {a b:Ky} (h:kle a b) (hne:a ≠ b):klt a b:=by
 obtain ⟨a1,a2⟩:=a
 obtain ⟨b1,b2⟩:=b
 unfold kle at h
 unfold klt
 simp only [ne_eq,Prod.mk.injEq] at *
 omega
theorem klt_tr {a b c:Ky} (h1:klt a b) (h2:klt b c):klt a c:=by unfold klt at *; omega
theorem klt_irr {a:Ky}:¬ klt a a:=by unfold klt; omega
theorem pair_of:∀{l:List Ky},(∀i,i+1<l.length→kle (at' l i) (at' l (i+1)))→l.Nodup→l.Pairwise klt
 | [],_,_=>.nil
 | [x],_,_=>by simp
 | x::y::l,h,hn=>by
  have hn2:=(List.nodup_cons.1 hn)
  have ih:=pair_of (l:=y::l) (fun i hi=>h (i+1) (by simpa using hi)) hn2.2
  have hxy:klt x y:=klt_of (h 0 (by simp)) (fun e=>hn2.1 (by rw [e]; simp))
  refine List.pairwise_cons.2 ⟨fun z hz=>?_,ih⟩
  rcases List.mem_cons.1 hz with rfl | hz
  ·exact hxy
  ·exact klt_tr hxy ((List.pairwise_cons.1 ih).1 z hz)
theorem sorted_ext:∀{a b:List Ky},a.Pairwise klt→b.Pairwise klt→(∀x,x∈a ↔ x∈b)→a=b
 | [],[],_,_,_=>rfl
 | [],y::b,_,_,h=>by have:=(h y).2 (by simp); simp at this
 | x::a,[],_,_,h=>by have:=(h x).1 (by simp); simp at this
 | x::a,y::b,ha,hb,h=>by
  rw [List.pairwise_cons] at ha hb
  have hxy:x=y:=by
   have h1:=(h x).1 (by simp)
   have h2:=(h y).2 (by simp)
   rcases List.mem_cons.1 h1 with h1 | h1
   ·exact h1
   ·rcases List.mem_cons.1 h2 with h2 | h2
    ·exact h2.symm
    ·exact absurd (klt_tr (hb.1 x h1) (ha.1 y h2)) klt_irr
  subst hxy
  rw [sorted_ext ha.2 hb.2 fun z=>?_]
  constructor
  ·intro hz
   rcases List.mem_cons.1 ((h z).1 (List.mem_cons_of_mem _ hz)) with e | h1
   ·have:=ha.1 z hz; rw [e] at this; exact absurd this klt_irr
   ·exact h1
  ·intro hz
   rcases List.mem_cons.1 ((h z).2 (List.mem_cons_of_mem _ hz)) with e | h1
   ·have:=hb.1 z hz; rw [e] at this; exact absurd this klt_irr
   ·exact h1
theorem isort_pair {l:List Ky} (hn:l.Nodup):(isortN l (l.length - 1)).Pairwise klt:=by
 have hp:=isortN_perm l (l.length - 1)
 refine pair_of (fun i hi=>?_) (hp.nodup_iff.2 hn)
 rw [isortN_len] at hi
 exact isortN_sorted l (l.length - 1) (by omega) i (by omega)
theorem isort_perm {l r:List Ky} (h:l.Perm r) (hn:r.Nodup):isortN l (l.length - 1)=isortN r (r.length - 1) :=
 sorted_ext (isort_pair (h.nodup_iff.2 hn)) (isort_pair hn) fun x=>by rw [(isortN_perm l _).mem_iff,(isortN_perm r _).mem_iff,h.mem_iff]
def NdK (m:OM):Prop:=(m.map Prod.fst).Nodup
theorem oget_mem {k:Ky} {x:Ob}:∀{m:OM},oget m k=some x→(k,x)∈m
 | [],h=>by cases h
 | p::r,h=>by
  simp only [oget] at h
  split at h
  ·rename_i e
   injection h with h
   subst h; subst e
   simp
  ·exact List.mem_cons_of_mem _ (oget_mem h)
theorem mem_oget {k:Ky} {x:Ob}:∀{m:OM},NdK m→(k,x)∈m→oget m k=some x
 | [],_,h=>by simp at h
 | p::r,hn,h=>by
  have hn2:=List.nodup_cons.1 hn
  simp only [oget]
  rcases List.mem_cons.1 h with rfl | h
  ·simp
  ·rw [if_neg (fun e=>hn2.1 (List.mem_map.2 ⟨_,h,e.symm⟩))]
   exact mem_oget hn2.2 h
theorem oput_keys {k:Ky} {x:Ob}:∀{m:OM},∀q,q∈(oput m k x).map Prod.fst ↔ q=k ∨ q∈m.map Prod.fst
 | [],q=>by simp [oput]
 | p::r,q=>by
  simp only [oput]
  by_cases e:p.1=k
  ·simp [e]
  ·simp only [e,if_false,List.map_cons,List.mem_cons]
   rw [oput_keys (m:=r) q]
   constructor
   ·rintro (h | h | h)
    ·exact .inr (.inl h)
    ·exact .inl h
    ·exact .inr (.inr h)
   ·rintro (h | h | h)
    ·exact .inr (.inl h)
    ·exact .inl h
    ·exact .inr (.inr h)
theorem oput_nd {k:Ky} {x:Ob}:∀{m:OM},NdK m→NdK (oput m k x)
 | [],_=>by simp [oput,NdK]
 | p::r,hn=>by
  have hn2:=List.nodup_cons.1 hn
  simp only [oput]
  by_cases e:p.1=k
  ·rw [if_pos e]
   refine List.nodup_cons.2 ⟨?_,hn2.2⟩
   rw [←e]; exact hn2.1
  ·rw [if_neg e]
   refine List.nodup_cons.2 ⟨fun hm=>?_,oput_nd hn2.2⟩
   rcases (oput_keys _).1 hm with h | h
   ·exact e h
   ·exact hn2.1 h
theorem odel_sub {k:Ky}:∀{m:OM},(odel m k).Sublist m
 | []=>.slnil
 | p::r=>by
  simp only [odel]
  split
  ·exact List.sublist_cons_self p r
  ·exact odel_sub.cons_cons p
theorem odel_nd {k:Ky} {m:OM} (h:NdK m):NdK (odel m k):=h.sublist (odel_sub.map _)
def ownK (m:OM) (ow:Int):List Ky:=(m.filter fun p=>p.2.owner == ow).map Prod.fst
def ofL (m:OM) (ow:Int):List Ky:=isortN (ownK m ow) ((ownK m ow).length - 1)
theorem ownK_nd {m:OM} (h:NdK m) (ow:Int):(ownK m ow).Nodup:=h.sublist ((List.filter_sublist).map _)
theorem mem_ofL {m:OM} (h:NdK m) {ow:Int} {k:Ky}:k∈ofL m ow ↔ ∃x,oget m k=some x∧x.owner=ow:=by
 unfold ofL
 rw [(isortN_perm _ _).mem_iff]
 unfold ownK
 simp only [List.mem_map,List.mem_filter]
 constructor
 ·rintro ⟨⟨k',x⟩,⟨h1,h2⟩,rfl⟩
  exact ⟨x,mem_oget h h1,by simpa using h2⟩
 ·rintro ⟨x,h1,h2⟩
  exact ⟨(k,x),⟨oget_mem h1,by simpa using h2⟩,rfl⟩
theorem erase_perm {α:Type}:∀{l:List α} {i:Nat} {x:α},l[i]?=some x→l.Perm (x::l.eraseIdx i)
 | [],i,x,h=>by simp at h
 | y::l,0,x,h=>by simp at h; subst h; simp
 | y::l,i+1,x,h=>by
  simp only [List.getElem?_cons_succ] at h
  simp only [List.eraseIdx_cons_succ]
  exact ((erase_perm h).cons y).trans (List.Perm.swap x y _)
end Go.Proofs.YtccialgeakmmpaaGreatDoor
namespace Go.Proofs.YtccialgeakmmpaaGreatDoor
open Go.TM
variable [KObj]
def isOwner (n:Int):Bool:=decide (1≤n) && decide (n≤1073741824)
theorem isOwner_spec (n:Int):PSpec Tryz.prog 61 [I n] [B (isOwner n)]:=by
 refine pspec_of tab_ok mixed (calls_snd _) (range_snd _) Tryz.func61 rfl (by kernel_rfl) rfl ?_
 repeat first | refine ⟨id,?_⟩ | refine ⟨fun _ h=>bw_f h,?_⟩ | refine ⟨fun _ h=>bw_t h,?_⟩ | refine ⟨fun h=>⟨h,fun h2=>bw_and h h2⟩,?_⟩ | refine ⟨fun h=>⟨h,fun h2=>bw_andf h h2⟩,?_⟩
 refine ⟨DV.Le.of_eq ?_,tv⟩
 unfold isOwner
 cases decide (1≤n) <;> rfl
def putE (its:List Item) (m:OM) (k:Ky) (x:Ob):Int :=
 if k.1<0 ∨ k.2<0 ∨ 1099511627776≤k.2 ∨ isOwner x.owner=false then 1
 else match typeOf its x.item with
 | none=>9
 | some t=>if x.wear<0 ∨ t.wear<x.wear then 5 else if (oget m k).isSome then 8 else 0
def putM (its:List Item) (m:OM) (k:Ky) (x:Ob):OM:=if putE its m k x=0 then oput m k x else m
theorem closed_eOb (x:Ob):(eOb x).closedCells:=fun d hd=>by
 simp only [eOb,DV.cells,List.mem_cons,List.not_mem_nil,or_false] at hd
 rcases hd with rfl | rfl | rfl | rfl <;> rfl
theorem old_closed (m:OM) (k:Ky):∀x,mget (m.map eEnt) (eKy k)=some x→x.closedCells:=by
 intro x hx
 rw [mget_ky] at hx
 cases hq:oget m k with
 | none=>rw [hq] at hx; cases hx
 | some y=>rw [hq] at hx; injection hx with hx; subst hx; exact closed_eOb y
set_option maxRecDepth 100000
set_option maxHeartbeats 4000000 in
theorem put_spec (its:List Item) (m:OM) (k:Ky) (x:Ob):CSpec Tryz.prog 34 [.ptr 0 0,ofD (eKy k),ofD (eOb x)] 2 (stK its m) 0 [.dv (I (putE its m k x))] (stK its (putM its m k x)):=by
 refine cspec_of tab_ok mixed (calls_snd _) (range_snd _) Tryz.func34 rfl rfl (by kernel_rfl) ?_
 repeat first | refine ⟨id,?_⟩ | refine ⟨fun _ h=>bw_f h,?_⟩ | refine ⟨fun _ h=>bw_t h,?_⟩ | refine ⟨fun h=>⟨h,fun h2=>bw_and h h2⟩,?_⟩ | refine ⟨fun h=>⟨h,fun h2=>bw_andf h h2⟩,?_⟩
 refine .inl ⟨_,fun _=>(isOwner_spec x.owner).ok,?_⟩
 repeat first | refine ⟨id,?_⟩ | refine ⟨fun _ h=>bw_f h,?_⟩ | refine ⟨fun _ h=>bw_t h,?_⟩ | refine ⟨fun h=>⟨h,fun h2=>bw_and h h2⟩,?_⟩ | refine ⟨fun h=>⟨h,fun h2=>bw_andf h h2⟩,?_⟩
 refine ⟨fun h=>?_,fun h=>?_⟩
 ·have e:putE its m k x=1:=by
   unfold putE
   rw [if_pos]
   simp only [Bool.cond_true_left,Bool.cond_eq_ite] at h
   by_cases h1:k.1<0
   ·exact .inl h1
   by_cases h2:k.2<0
   ·exact .inr (.inl h2)
   by_cases h3:1099511627776≤k.2
   ·exact .inr (.inr (.inl h3))
   simp [h1,h2,h3] at h
   exact .inr (.inr (.inr h))
  refine ⟨_,_,⟨rfl,rfl⟩,by kernel_rfl,⟨?_,tv⟩,⟨rf,rf,rf,rf,rfl,tv⟩,⟨rfl,?_⟩,tv⟩
  ·rw [e]; exact rf
  ·rw [putM,e]; rfl
 ·have hbad:¬ (k.1<0 ∨ k.2<0 ∨ 1099511627776≤k.2 ∨ isOwner x.owner=false):=by
   rintro (h1 | h1 | h1 | h1) <;> simp [h1] at h
  have hty:=typeOf_spec its m x.item
  cases ht:typeOf its x.item with
  | none =>
   rw [ht] at hty
   have e:putE its m k x=9:=by simp only [putE,if_neg hbad,ht]
   refine .inr ⟨[0,1],[.ptr 0 0,.dv (I x.item)],stK its m,0,_,_,hty,by kernel_rfl,by kernel_rfl,⟨rfl,rf,tv⟩,⟨⟨rf,rf,rf,rf,rfl,tv⟩,⟨rfl,rfl⟩,tv⟩,?_⟩
   refine ⟨fun _=>?_,fun h=>by cases h⟩
   refine ⟨_,_,⟨rfl,rfl⟩,by kernel_rfl,⟨?_,tv⟩,⟨rf,rf,rf,rf,rfl,tv⟩,⟨rfl,?_⟩,tv⟩
   ·rw [e]; exact rf
   ·rw [putM,e]; rfl
  | some t =>
   rw [ht] at hty
   refine .inr ⟨[0,1],[.ptr 0 0,.dv (I x.item)],stK its m,0,_,_,hty,by kernel_rfl,by kernel_rfl,⟨rfl,rf,tv⟩,⟨⟨rf,rf,rf,rf,rfl,tv⟩,⟨rfl,rfl⟩,tv⟩,?_⟩
   refine ⟨fun h=>(by cases h),fun _=>?_⟩
   repeat first | refine ⟨id,?_⟩ | refine ⟨fun _ h=>bw_f h,?_⟩ | refine ⟨fun _ h=>bw_t h,?_⟩ | refine ⟨fun h=>⟨h,fun h2=>bw_and h h2⟩,?_⟩ | refine ⟨fun h=>⟨h,fun h2=>bw_andf h h2⟩,?_⟩
   refine ⟨fun h=>?_,fun h=>?_⟩
   ·have hw:x.wear<0 ∨ t.wear<x.wear:=by
     by_cases h1:x.wear<0
     ·exact .inl h1
     ·simp [h1,tyI] at h; exact .inr (of_decide_eq_true h)
    have e:putE its m k x=5:=by simp only [putE,if_neg hbad,ht,if_pos hw]
    refine ⟨_,_,⟨rfl,rfl⟩,by kernel_rfl,⟨?_,tv⟩,⟨rf,rf,rf,rf,rfl,tv⟩,⟨rfl,?_⟩,tv⟩
    ·rw [e]; exact rf
    ·rw [putM,e]; rfl
   ·have hw:¬ (x.wear<0 ∨ t.wear<x.wear):=by
     rintro (h1 | h1) <;> simp [h1,tyI] at h
    refine ⟨keyTI,eKy k,rfl,rfl,eOb ((oget m k).getD Ob.zero),(oget m k).isSome,fun _=>mget_b m k,mget_z,rfl,?_⟩
    refine ⟨by kernel_rfl,fun h=>?_,fun h=>?_⟩
    ·have e:putE its m k x=8:=by simp only [putE,if_neg hbad,ht,if_neg hw,if_pos h]
     refine ⟨_,_,⟨rfl,rfl⟩,by kernel_rfl,⟨?_,tv⟩,⟨rf,rf,rf,rf,rfl,tv⟩,⟨rfl,?_⟩,tv⟩
     ·rw [e]; exact rf
     ·rw [putM,e]; rfl
    ·have h0:¬ (oget m k).isSome=true:=by rw [h]; simp
     have e:putE its m k x=0:=by simp only [putE,if_neg hbad,ht,if_neg hw,if_neg h0]
     refine ⟨keyTI,eKy k,rfl,rfl,eOb x,⟨rf,rf,rf,rf,tv⟩,rfl,false,fun _=>⟨old_closed m k,closed_eOb x⟩,?_⟩
     refine ⟨by kernel_rfl,_,_,⟨rfl,rfl⟩,by kernel_rfl,⟨?_,tv⟩,⟨rf,rf,rf,rf,rfl,tv⟩,⟨rfl,?_⟩,tv⟩
     ·rw [e]; exact rf
     ·rw [putM,e,if_pos rfl,mput_ky]
end Go.Proofs.YtccialgeakmmpaaGreatDoor
namespace Go.Proofs.YtccialgeakmmpaaGreatDoor
open Go.TM
variable [KObj]
theorem ownK_perm {m r:OM} {ow:Int} (h:m.Perm r):(ownK m ow).Perm (ownK r ow):=(h.filter _).map _
theorem ownK_own {k:Ky} {x:Ob} {r:OM} {ow:Int} (h:x.owner=ow):ownK ((k,x)::r) ow=k::ownK r ow:=by simp [ownK,h]
theorem ownK_not {k:Ky} {x:Ob} {r:OM} {ow:Int} (h:¬ x.owner=ow):ownK ((k,x)::r) ow=ownK r ow:=by simp [ownK,h]
theorem erase_map {α β:Type} {f:α→β}:∀(l:List α) (i:Nat),(l.map f).eraseIdx i=(l.eraseIdx i).map f
 | [],_=>rfl
 | _::_,0=>rfl
 | x::l,i+1=>by simp only [List.map_cons,List.eraseIdx_cons_succ]; rw [erase_map l i]
structure OfSt where
 left:OM
 ids:List Ky
theorem by29:(nth tab (nth tab 76).elem).bytes=16:=rfl
set_option maxRecDepth 100000
set_option maxHeartbeats 4000000 in
theorem of_spec (its:List Item) (m:OM) (ow:Int) (hn:NdK m) (hl:m.length≤12):CSpec Tryz.prog 26 [.ptr 0 0,.dv (I ow)] 2 (stK its m) 2 [.own 3 0 0 []] (stK its m++[(3,.tree 0 0 (.osl 2 ((ofL m ow).map eKy)))]):=by
 refine cspec_of tab_ok mixed (calls_snd _) (range_snd _) Tryz.func26 rfl rfl (by kernel_rfl) ?_
 refine ⟨OfSt,fun z=>⟨4,[(0,.ptr 0 0),(1,.dv (I ow)),(5,.own 3 0 0 []),(12,.ptr 2 0)],[(0,.cells (stC its)),(1,.held),(2,.itr 1 [] (.omap pairK (m.map eEnt)) (z.left.map eEnt) none),(3,.tree 0 0 (.osl 2 (z.ids.map eKy)))]⟩,fun z=>(ownK z.left ow++z.ids).Perm (ownK m ow)∧z.left.length+z.ids.length≤m.length,fun z=>z.left.length,⟨m,[]⟩,fun _=>rfl,?_,?_,?_⟩
 ·exact ⟨⟨rfl,rf,⟨rfl,rfl,rfl,rfl,2,rfl⟩,rfl,tv⟩,⟨⟨rf,rf,rf,rf,rfl,tv⟩,tv,⟨rfl,rfl,rfl,rfl,.inl rfl,tv⟩,⟨rfl,rfl,2,rfl⟩,tv⟩,rfl,rfl⟩
 ·exact ⟨by simp,by simp⟩
 ·rintro ⟨left,ids⟩ ⟨h1,h2⟩
  dsimp only at h1 h2
  refine ⟨tv,fun h=>⟨(fun h=>by cases h),fun _=>?_⟩,fun pos c hc=>⟨fun _=>?_,fun h=>by cases h⟩⟩
  ·have hz:left=[]:=by simpa using h
   subst hz
   have hle:ids.length≤12:=by simp at h2; omega
   have hs:=sort_spec ids hle
   refine .inr ⟨[3],[.own 0 0 0 [],.dv (.fn 45 [])],[(0,.tree 0 0 (.osl 2 (ids.map eKy)))],0,_,_,hs,by kernel_rfl,by kernel_rfl,⟨rfl,rf,tv⟩,⟨⟨rfl,rfl⟩,tv⟩,?_⟩
   have he:isortN ids (ids.length - 1)=ofL m ow:=isort_perm (by simpa [ownK] using h1) (ownK_nd hn ow)
   exact ⟨_,_,⟨rfl,rfl⟩,by kernel_rfl,⟨rfl,tv⟩,⟨rf,rf,rf,rf,rfl,tv⟩,⟨rfl,rfl⟩,⟨rfl,by rw [he]⟩,tv⟩
  ·dsimp only at hc
   rw [List.getElem?_map] at hc
   obtain ⟨⟨k,x⟩,hk,rfl⟩:∃p,left[pos]?=some p∧c=eEnt p:=by
    cases hq:left[pos]? with
    | none=>rw [hq] at hc; cases hc
    | some p=>rw [hq] at hc; exact ⟨p,rfl,by simpa using hc.symm⟩
   refine ⟨closed_eOb x,fun h=>?_,fun h=>?_⟩
   ·have hx:x.owner=ow:=by simpa using h
    refine .inl ⟨[eKy k],rfl,⟨rf,rf,tv⟩,(by simp; rfl),?_⟩
    refine .inr ⟨[eKy k],ELes.refl _,(by rw [by29]; simp; omega),(by simp; omega),⟨left.eraseIdx pos,ids++[k]⟩,?_,⟨?_,?_⟩,?_⟩
    ·exact ⟨⟨rfl,rf,rfl,rfl,tv⟩,⟨⟨rf,rf,rf,rf,rfl,tv⟩,tv,⟨rfl,rfl,rfl,erase_map _ _,.inl rfl,tv⟩,⟨rfl,by simp⟩,tv⟩,rfl,rfl⟩
    ·refine List.Perm.trans ?_ h1
     have h3:=ownK_perm (ow:=ow) (erase_perm hk)
     rw [ownK_own hx] at h3
     refine List.Perm.trans ?_ (h3.symm.append_right ids)
     rw [←List.append_assoc]
     exact List.perm_append_singleton _ _
    ·have:=(List.getElem?_eq_some_iff.1 hk).1
     simp only [List.length_append,List.length_singleton,List.length_eraseIdx]
     split <;> omega
    ·have:=(List.getElem?_eq_some_iff.1 hk).1
     simp only [List.length_eraseIdx]
     split <;> omega
   ·have hx:¬ x.owner=ow:=by simpa using h
    refine ⟨⟨left.eraseIdx pos,ids⟩,?_,⟨?_,?_⟩,?_⟩
    ·exact ⟨⟨rfl,rf,rfl,rfl,tv⟩,⟨⟨rf,rf,rf,rf,rfl,tv⟩,tv,⟨rfl,rfl,rfl,erase_map _ _,.inl rfl,tv⟩,⟨rfl,rfl⟩,tv⟩,rfl,rfl⟩
    ·refine List.Perm.trans ?_ h1
     have h3:=ownK_perm (ow:=ow) (erase_perm hk)
     rw [ownK_not hx] at h3
     exact h3.symm.append_right ids
    ·have:=(List.getElem?_eq_some_iff.1 hk).1
     simp only [List.length_eraseIdx]
     split <;> omega
    ·have:=(List.getElem?_eq_some_iff.1 hk).1
     simp only [List.length_eraseIdx]
     split <;> omega
end Go.Proofs.YtccialgeakmmpaaGreatDoor
namespace Go.Proofs.YtccialgeakmmpaaGreatDoor
open Go.TM
def rcOf:Code→Option RC
 | .seq a b=>match rcOf a with
  | some r=>some r
  | none=>rcOf b
 | .cond _ a b=>match rcOf a with
  | some r=>some r
  | none=>rcOf b
 | .block _ c=>rcOf c
 | .scope c=>rcOf c
 | .loop c=>rcOf c
 | .rangeFunc _ ps a b=>some ⟨ps,a,b⟩
 | _=>none
def rcF (f:Func):RC:=match f.body with
 | some c=>(match rcOf c with
  | some r=>r
  | none=>⟨#[],.skip,.skip⟩)
 | none=>⟨#[],.skip,.skip⟩
def okS:List AV→Bool
 | []=>true
 | .any::r=>okS r
 | .ptr _ _::r=>okS r
 | .dv _::r=>okS r
 | _=>false
variable [KObj]
theorem subWs_ok {m:Nat} {κ κ':Nat→Box}:∀{l:List AV},okS l=true→subWs m κ κ' l l
 | [],_=>trivial
 | .any::r,h=>⟨tv,subWs_ok (l:=r) h⟩
 | .ptr _ _::r,h=>⟨rfl,subWs_ok (l:=r) h⟩
 | .dv d::r,h=>⟨DV.Le.refl d,subWs_ok (l:=r) h⟩
def apS (i:Nat):List AV:=(List.replicate 13 AV.any).set 2 (.ptr i 0)
def apK (rc:RC) (ks:List Ky) (v:Nat):Boxes:=[(0,.rcd rc .ready (apS 1)),(1,.cells [.own 2 v 0 []]),(2,.tree v 0 (.osl 2 (ks.map eKy)))]
set_option maxRecDepth 100000
theorem apBody_spec (ks:List Ky) (hk:ks.length≤1000000) (x:Ky):YSpecR Tryz.prog [ofD (eKy x)] 3 (apK (rcF Tryz.f136) ks 0) 0 fun r k=>r=[.dv (.bool true)]∧k=apK (rcF Tryz.f136) (ks++[x]) 1:=by
 refine yspecR_of tab_ok mixed rfl (by kernel_rfl) ?_
 refine .inl ⟨[eKy x],rfl,⟨rf,rf,tv⟩,(by simp; rfl),.inr ⟨[eKy x],ELes.refl _,(by rw [by29]; simp; omega),(by simp; omega),?_⟩⟩
 exact ⟨_,_,⟨rfl,rfl⟩,by kernel_rfl,⟨rf,tv⟩,⟨rfl,rfl,subWs_ok rfl⟩,⟨rfl,tv⟩,⟨rfl,by simp⟩,tv⟩
def kyK (rc:RC) (m:OM):Boxes:=[(0,.rcd rc .ready (apS 3)),(1,.cells [.own 2 0 0 []]),(2,.tree 0 0 (.omap pairK (m.map eEnt))),(3,.cells [.dv .nils])]
def kyE (rc:RC) (m:OM) (ks:List Ky):Boxes:=[(0,.rcd rc .ready (apS 3)),(1,.cells [.own 2 0 0 []]),(2,.tree 0 0 (.omap pairK (m.map eEnt))),(3,.cells [.own 5 0 0 []]),(5,.tree 0 0 (.osl 2 (ks.map eKy)))]
def kyI (rc:RC) (m:OM):OfSt→AState
 | ⟨left,ids⟩=>⟨6,[(0,.yld 0),(5,.ptr 4 0)],[(0,.rcd rc .ready (apS 3)),(1,.cells [.own 2 0 0 []]),(2,.held),(3,.cells [.own 5 0 0 []]),(4,.itr 2 [] (.omap pairK (m.map eEnt)) (left.map eEnt) none),(5,.tree 0 0 (.osl 2 (ids.map eKy)))]⟩
set_option maxHeartbeats 4000000 in
theorem keys1_spec (rc:RC) (m:OM) (hl:m.length≤1000)
  (hb:∀(ks:List Ky) (_:ks.length≤1000000) (x:Ky),YSpecR Tryz.prog [ofD (eKy x)] 3 (apK rc ks 0) 0 fun r k=>r=[.dv (.bool true)]∧k=apK rc (ks++[x]) 1) :
  CSpecR Tryz.prog 77 [.yld 0,.ptr 1 0] 4 (kyK rc m) 2 fun r k=>∃ks:List Ky,ks.Perm (m.map Prod.fst)∧r=[]∧k=kyE rc m ks:=by
 refine cspecR_of tab_ok mixed (calls_snd _) (range_snd _) Tryz.func77 rfl rfl (by kernel_rfl) ?_
 refine ⟨OfSt,kyI rc m,fun z=>(z.left.map Prod.fst++z.ids).Perm (m.map Prod.fst)∧z.left.length+z.ids.length≤m.length,fun z=>z.left.length,⟨m,[]⟩,fun ⟨_,_⟩=>rfl,?_,⟨by simp,by simp⟩,?_⟩
 ·exact ⟨⟨rfl,rfl,tv⟩,⟨⟨rfl,rfl,subWs_ok rfl⟩,⟨rfl,tv⟩,tv,⟨⟨rfl,rfl,rfl,rfl,2,rfl⟩,tv⟩,⟨rfl,rfl,rfl,rfl,.inl rfl,tv⟩,⟨rfl,rfl,2,rfl⟩,tv⟩,rfl,rfl⟩
 ·rintro ⟨left,ids⟩ ⟨h1,h2⟩
  dsimp only at h1 h2
  refine ⟨tv,fun h=>⟨(fun h=>by cases h),fun _=>?_⟩,fun pos c hc=>⟨fun _=>?_,fun h=>by cases h⟩⟩
  ·have hz:left=[]:=by simpa using h
   subst hz
   refine ⟨_,_,⟨ids,by simpa using h1,rfl,rfl⟩,by kernel_rfl,?_⟩
   exact ⟨tv,⟨rfl,rfl,subWs_ok rfl⟩,⟨rfl,tv⟩,⟨rfl,rfl⟩,⟨rfl,tv⟩,⟨rfl,rfl⟩,tv⟩
  ·rw [List.getElem?_map] at hc
   obtain ⟨⟨k,x⟩,hk,rfl⟩:∃p,left[pos]?=some p∧c=eEnt p:=by
    cases hq:left[pos]? with
    | none=>rw [hq] at hc; cases hc
    | some p=>rw [hq] at hc; exact ⟨p,rfl,by simpa using hc.symm⟩
   refine ⟨closed_eOb x,?_⟩
   have hlt:=(List.getElem?_eq_some_iff.1 hk).1
   refine .inl ⟨[0,3,5],[ofD (eKy k)],apK rc ids 0,0,_,_,hb ids (by omega) k,by kernel_rfl,by kernel_rfl,⟨⟨rf,rf,tv⟩,tv⟩,⟨⟨rfl,rfl,subWs_ok rfl⟩,⟨rfl,tv⟩,⟨rfl,rfl⟩,tv⟩,?_⟩
   refine ⟨fun h=>(by cases h),fun _=>⟨⟨left.eraseIdx pos,ids++[k]⟩,?_,⟨?_,?_⟩,?_⟩⟩
   ·exact ⟨⟨rfl,rfl,tv⟩,⟨⟨rfl,rfl,subWs_ok rfl⟩,⟨rfl,tv⟩,tv,⟨rfl,tv⟩,⟨rfl,rfl,rfl,erase_map _ _,.inl rfl,tv⟩,⟨rfl,rfl⟩,tv⟩,rfl,rfl⟩
   ·refine List.Perm.trans ?_ h1
    have h3:=(erase_perm hk).map Prod.fst
    refine List.Perm.trans ?_ (h3.symm.append_right ids)
    simp only [List.map_cons,List.cons_append]
    rw [←List.append_assoc]
    exact List.perm_append_singleton _ _
   ·simp only [List.length_append,List.length_singleton,List.length_eraseIdx]
    split <;> omega
   ·simp only [List.length_eraseIdx]
    split <;> omega
def mpK (m:OM):Boxes:=[(0,.cells [.own 1 0 0 []]),(1,.tree 0 0 (.omap pairK (m.map eEnt)))]
set_option maxHeartbeats 4000000 in
theorem appendSeq_spec (m:OM) (hl:m.length≤1000) :
  CSpecR Tryz.prog 136 [.dv .nils,.fn 77 [.ptr 0 0]] 2 (mpK m) 4 fun r k=>∃ks:List Ky,ks.Perm (m.map Prod.fst)∧r=[.own 5 0 0 []]∧k=mpK m++[(5,.tree 0 0 (.osl 2 (ks.map eKy)))]:=by
 refine cspecR_of tab_ok mixed (calls_snd _) (range_snd _) Tryz.func136 rfl rfl (by kernel_rfl) ?_
 refine ⟨rcF Tryz.f136,rfl,?_⟩
 refine ⟨[3,0,1,2],[.yld 0,.ptr 1 0],kyK (rcF Tryz.f136) m,2,_,keys1_spec (rcF Tryz.f136) m hl (fun ks hk x=>apBody_spec ks hk x),by kernel_rfl,?_,?_,?_⟩
 ·exact ⟨rfl,rfl,tv⟩
 ·exact ⟨⟨rfl,rfl,tv,tv,rfl,tv,tv,tv,tv,tv,tv,tv,tv,tv,tv,tv⟩,⟨rfl,tv⟩,⟨rfl,rfl⟩,⟨rf,tv⟩,tv⟩
 ·rintro rs K2 ⟨ks,hp,rfl,rfl⟩
  refine ⟨by kernel_rfl,?_⟩
  exact ⟨_,_,⟨ks,hp,rfl,rfl⟩,by kernel_rfl,⟨rfl,tv⟩,⟨rfl,tv⟩,⟨rfl,rfl⟩,⟨rfl,rfl⟩,tv⟩
set_option maxHeartbeats 4000000 in
theorem collect_spec (m:OM) (hl:m.length≤1000) :
  CSpecR Tryz.prog 76 [.fn 77 [.ptr 0 0]] 2 (mpK m) 4 fun r k=>∃ks:List Ky,ks.Perm (m.map Prod.fst)∧r=[.own 5 0 0 []]∧k=mpK m++[(5,.tree 0 0 (.osl 2 (ks.map eKy)))]:=by
 refine cspecRX_of tab_ok mixed (calls_snd _) (range_snd _) Tryz.func76 rfl rfl (by kernel_rfl) ?_
 refine .inr ⟨[0,1],[.dv .nils,.fn 77 [.ptr 0 0]],mpK m,4,_,appendSeq_spec m hl,by kernel_rfl,?_,?_,?_⟩
 ·exact ⟨rf,⟨rfl,rfl,tv⟩,tv⟩
 ·exact ⟨⟨rfl,tv⟩,⟨rfl,rfl⟩,tv⟩
 rintro rs K2 ⟨ks,hp,rfl,rfl⟩
 refine ⟨by kernel_rfl,?_⟩
 exact ⟨_,_,⟨ks,hp,rfl,rfl⟩,by kernel_rfl,⟨rfl,tv⟩,⟨rfl,tv⟩,⟨rfl,rfl⟩,⟨rfl,rfl⟩,tv⟩
def keysOf (m:OM):List Ky:=isortN (m.map Prod.fst) ((m.map Prod.fst).length - 1)
set_option maxHeartbeats 4000000 in
theorem sortedFunc_spec (m:OM) (hn:NdK m) (hl:m.length≤12) :
  CSpec Tryz.prog 43 [.fn 77 [.ptr 0 0],.dv (.fn 45 [])] 2 (mpK m) 4 [.own 5 0 0 []] (mpK m++[(5,.tree 0 0 (.osl 2 ((keysOf m).map eKy)))]):=by
 refine cspecXX_of tab_ok mixed (calls_snd _) (range_snd _) Tryz.func43 rfl rfl (by kernel_rfl) ?_
 refine .inr ⟨[0,1],[.fn 77 [.ptr 0 0]],mpK m,4,_,collect_spec m (by omega),by kernel_rfl,?_,?_,?_⟩
 ·exact ⟨⟨rfl,rfl,tv⟩,tv⟩
 ·exact ⟨⟨rfl,tv⟩,⟨rfl,rfl⟩,tv⟩
 rintro rs K2 ⟨ks,hp,rfl,rfl⟩
 refine ⟨by kernel_rfl,?_⟩
 have hlen:ks.length≤12:=by rw [hp.length_eq,List.length_map]; exact hl
 have hs:=sort_spec ks hlen
 have he:isortN ks (ks.length - 1)=keysOf m:=isort_perm hp hn
 rw [he] at hs
 refine .inl (.inr ⟨[5],[.own 0 0 0 [],.dv (.fn 45 [])],[(0,.tree 0 0 (.osl 2 (ks.map eKy)))],0,_,_,hs,by kernel_rfl,by kernel_rfl,⟨rfl,rf,tv⟩,⟨⟨rfl,rfl⟩,tv⟩,?_⟩)
 exact ⟨_,_,⟨rfl,rfl⟩,by kernel_rfl,⟨rfl,tv⟩,⟨rfl,tv⟩,⟨rfl,rfl⟩,⟨rfl,rfl⟩,tv⟩
set_option maxHeartbeats 4000000 in
theorem mapKeys_spec (m:OM):CSpec Tryz.prog 44 [.own 0 0 0 []] 1 [(0,.tree 0 0 (.omap pairK (m.map eEnt)))] 1 [.fn 77 [.ptr 1 0]] [(0,.tree 0 0 (.omap pairK (m.map eEnt))),(1,.cells [.own 0 0 0 []])]:=by
 refine cspec_of tab_ok mixed (calls_snd _) (range_snd _) Tryz.func44 rfl rfl (by kernel_rfl) ?_
 exact ⟨_,_,⟨rfl,rfl⟩,by kernel_rfl,⟨⟨rfl,rfl,tv⟩,tv⟩,⟨rfl,rfl⟩,⟨rfl,tv⟩,tv⟩
set_option maxHeartbeats 4000000 in
theorem sorted_spec (its:List Item) (m:OM) (hn:NdK m) (hl:m.length≤12):CSpec Tryz.prog 19 [.ptr 0 0] 2 (stK its m) 5 [.own 6 0 0 []] (stK its m++[(6,.tree 0 0 (.osl 2 ((keysOf m).map eKy)))]):=by
 refine cspec_of tab_ok mixed (calls_snd _) (range_snd _) Tryz.func19 rfl rfl (by kernel_rfl) ?_
 refine .inr ⟨[1],[.own 0 0 0 []],[(0,.tree 0 0 (.omap pairK (m.map eEnt)))],1,_,_,mapKeys_spec m,by kernel_rfl,by kernel_rfl,⟨rfl,tv⟩,⟨⟨rfl,rfl⟩,tv⟩,?_⟩
 refine .inr ⟨[2,1],[.fn 77 [.ptr 0 0],.dv (.fn 45 [])],mpK m,4,_,_,sortedFunc_spec m hn hl,by kernel_rfl,by kernel_rfl,⟨⟨rfl,rfl,tv⟩,rf,tv⟩,⟨⟨rfl,tv⟩,⟨rfl,rfl⟩,tv⟩,?_⟩
 exact ⟨_,_,⟨rfl,rfl⟩,by kernel_rfl,⟨rfl,tv⟩,⟨rf,rf,rf,rf,rfl,tv⟩,⟨rfl,rfl⟩,⟨rfl,rfl⟩,tv⟩
end Go.Proofs.YtccialgeakmmpaaGreatDoor
namespace Go.Proofs.YtccialgeakmmpaaGreatDoor
open Go.TM
variable [KObj]
set_option maxRecDepth 100000
def makeX (its:List Item) (i ow:Int):Ob:=⟨i,ow,(tyI (typeOf its i)).wear,decide ((tyI (typeOf its i)).bind=1)⟩
set_option maxHeartbeats 4000000 in
theorem make_spec (its:List Item) (m:OM) (k:Ky) (i ow:Int):CSpec Tryz.prog 29 [.ptr 0 0,ofD (eKy k),.dv (I i),.dv (I ow)] 2 (stK its m) 0 [.dv (I (putE its m k (makeX its i ow)))] (stK its (putM its m k (makeX its i ow))):=by
 refine cspec_of tab_ok mixed (calls_snd _) (range_snd _) Tryz.func29 rfl rfl (by kernel_rfl) ?_
 refine .inr ⟨[0,1],[.ptr 0 0,.dv (I i)],stK its m,0,_,_,typeOf_spec its m i,by kernel_rfl,by kernel_rfl,⟨rfl,rf,tv⟩,⟨⟨rf,rf,rf,rf,rfl,tv⟩,⟨rfl,rfl⟩,tv⟩,?_⟩
 refine .inr ⟨[0,1],[.ptr 0 0,ofD (eKy k),ofD (eOb (makeX its i ow))],stK its m,0,_,_,put_spec its m k (makeX its i ow),by kernel_rfl,by kernel_rfl,⟨rfl,⟨rf,rf,tv⟩,⟨rf,rf,rf,rf,tv⟩,tv⟩,⟨⟨rf,rf,rf,rf,rfl,tv⟩,⟨rfl,rfl⟩,tv⟩,?_⟩
 exact ⟨_,_,⟨rfl,rfl⟩,by kernel_rfl,⟨rf,tv⟩,⟨rf,rf,rf,rf,rfl,tv⟩,⟨rfl,rfl⟩,tv⟩
structure OkO (its:List Item) (x:Ob):Prop where
 lo:0≤x.item
 hi:x.item<its.length
 w0:0≤x.wear
 w1:x.wear≤(its.getD x.item.toNat Item.zero).wear
 w2:(its.getD x.item.toNat Item.zero).wear≤1048576
def OkS (its:List Item) (m:OM):Prop:=∀k x,oget m k=some x→OkO its x
theorem OkS.okM {its:List Item} {m:OM} (h:OkS its m):OkM its m:=fun k x hx=>⟨(h k x hx).lo,(h k x hx).hi⟩
theorem ownR_ok {its:List Item} {m:OM} {k:Ky} {ow:Int} (h:(ownR its m k ow).2.2=0):∃x,oget m k=some x∧x.owner=ow∧ownR its m k ow=(x,its.getD x.item.toNat Item.zero,0):=by
 unfold ownR at h ⊢
 cases hq:oget m k with
 | none=>rw [hq] at h; simp at h
 | some x =>
  rw [hq] at h
  by_cases he:x.owner=ow
  ·exact ⟨x,rfl,he,by simp [he]⟩
  ·simp [he] at h
theorem get_spec (its:List Item) (m:OM) (k:Ky):CSpec Tryz.prog 27 [.ptr 0 0,ofD (eKy k)] 2 (stK its m) 0 [ofD (eOb ((oget m k).getD Ob.zero)),.dv (B (oget m k).isSome)] (stK its m):=by
 refine cspec_of tab_ok mixed (calls_snd _) (range_snd _) Tryz.func27 rfl rfl (by kernel_rfl) ?_
 refine ⟨keyTI,eKy k,rfl,rfl,eOb ((oget m k).getD Ob.zero),(oget m k).isSome,fun _=>mget_b m k,mget_z,rfl,?_⟩
 exact ⟨by kernel_rfl,_,_,⟨rfl,rfl⟩,by kernel_rfl,⟨⟨rf,rf,rf,rf,tv⟩,rf,tv⟩,⟨rf,rf,rf,rf,rfl,tv⟩,⟨rfl,rfl⟩,tv⟩
def useE (its:List Item) (m:OM) (k:Ky) (ac lv w:Int):Int :=
 if (ownR its m k ac).2.2 ≠ 0 then (ownR its m k ac).2.2
 else if w<0 ∨ 1048576<w then 1
 else if lv<(ownR its m k ac).2.1.lev then 12
 else if (ownR its m k ac).1.wear<w then 10
 else 0
def useX (x:Ob) (t:Item) (w:Int):Ob:={ x with wear:=x.wear - w,bound:=bif x.bound then true else decide (t.bind=2) }
def useM (its:List Item) (m:OM) (k:Ky) (ac lv w:Int):OM:=if useE its m k ac lv w=0 then oput m k (useX (ownR its m k ac).1 (ownR its m k ac).2.1 w) else m
set_option maxHeartbeats 4000000 in
theorem use_spec (its:List Item) (m:OM) (k:Ky) (ac lv w:Int) (hm:OkS its m):CSpec Tryz.prog 31 [.ptr 0 0,ofD (eKy k),.dv (I ac),.dv (I lv),.dv (I w)] 2 (stK its m) 0 [.dv (I (useE its m k ac lv w))] (stK its (useM its m k ac lv w)):=by
 refine cspec_of tab_ok mixed (calls_snd _) (range_snd _) Tryz.func31 rfl rfl (by kernel_rfl) ?_
 refine .inr ⟨[0,1],[.ptr 0 0,ofD (eKy k),.dv (I ac)],stK its m,0,_,_,owned_spec its m k ac hm.okM,by kernel_rfl,by kernel_rfl,⟨rfl,⟨rf,rf,tv⟩,rf,tv⟩,⟨⟨rf,rf,rf,rf,rfl,tv⟩,⟨rfl,rfl⟩,tv⟩,?_⟩
 refine ⟨fun h=>?_,fun h=>?_⟩
 ·have e:useE its m k ac lv w=(ownR its m k ac).2.2:=by
   unfold useE; rw [if_pos (by simpa using h)]
  refine ⟨_,_,⟨rfl,rfl⟩,by kernel_rfl,⟨?_,tv⟩,⟨rf,rf,rf,rf,rfl,tv⟩,⟨rfl,?_⟩,tv⟩
  ·rw [e]; exact rf
  ·have h0:¬ (ownR its m k ac).2.2=0:=by simpa using h
   rw [useM,e,if_neg h0]
 ·have h0:(ownR its m k ac).2.2=0:=by simpa using h
  obtain ⟨x,hx,how,he⟩:=ownR_ok h0
  have hok:=hm k x hx
  rw [he]
  unfold useM useE
  rw [he]
  simp only [ne_eq,not_true_eq_false,if_false]
  repeat first | refine ⟨id,?_⟩ | refine ⟨fun _ h=>bw_f h,?_⟩ | refine ⟨fun _ h=>bw_t h,?_⟩ | refine ⟨fun h=>⟨h,fun h2=>bw_and h h2⟩,?_⟩ | refine ⟨fun h=>⟨h,fun h2=>bw_andf h h2⟩,?_⟩
  refine ⟨fun h=>?_,fun h=>?_⟩
  ·have hw:w<0 ∨ 1048576<w:=by
    by_cases h1:w<0
    ·exact .inl h1
    ·simp [h1] at h; exact .inr h
   refine ⟨_,_,⟨rfl,rfl⟩,by kernel_rfl,⟨?_,tv⟩,⟨rf,rf,rf,rf,rfl,tv⟩,⟨rfl,?_⟩,tv⟩
   ·rw [if_pos hw]; exact rf
   ·rw [if_pos hw]; rfl
  ·have hw:¬ (w<0 ∨ 1048576<w):=by
    rintro (h1 | h1) <;> simp [h1] at h
   rw [if_neg hw]
   refine ⟨fun h=>?_,fun h=>?_⟩
   ·have h1:lv<(its.getD x.item.toNat Item.zero).lev:=of_decide_eq_true h
    refine ⟨_,_,⟨rfl,rfl⟩,by kernel_rfl,⟨?_,tv⟩,⟨rf,rf,rf,rf,rfl,tv⟩,⟨rfl,?_⟩,tv⟩
    ·rw [if_pos h1]; exact rf
    ·rw [if_pos h1]; rfl
   ·have h1:¬ lv<(its.getD x.item.toNat Item.zero).lev:=of_decide_eq_false h
    rw [if_neg h1]
    refine ⟨fun h=>?_,fun h=>?_⟩
    ·have h2:x.wear<w:=of_decide_eq_true h
     refine ⟨_,_,⟨rfl,rfl⟩,by kernel_rfl,⟨?_,tv⟩,⟨rf,rf,rf,rf,rfl,tv⟩,⟨rfl,?_⟩,tv⟩
     ·rw [if_pos h2]; exact rf
     ·rw [if_pos h2]; rfl
    ·have h2:¬ x.wear<w:=of_decide_eq_false h
     rw [if_neg h2,if_pos rfl]
     refine ⟨fun _=>⟨by omega,by have:=hok.w1; have:=hok.w2; omega⟩,?_⟩
     repeat first | refine ⟨id,?_⟩ | refine ⟨fun _ h=>bw_f h,?_⟩ | refine ⟨fun _ h=>bw_t h,?_⟩ | refine ⟨fun h=>⟨h,fun h2=>bw_and h h2⟩,?_⟩ | refine ⟨fun h=>⟨h,fun h2=>bw_andf h h2⟩,?_⟩
     refine ⟨keyTI,eKy k,rfl,rfl,eOb (useX x (its.getD x.item.toNat Item.zero) w),⟨rf,rf,rf,rf,tv⟩,rfl,false,fun _=>⟨old_closed m k,closed_eOb _⟩,?_⟩
     refine ⟨by kernel_rfl,?_⟩
     refine ⟨_,_,⟨rfl,rfl⟩,by kernel_rfl,⟨?_,tv⟩,⟨rf,rf,rf,rf,rfl,tv⟩,⟨rfl,?_⟩,tv⟩
     ·exact rf
     ·rw [mput_ky]
def repE (its:List Item) (m:OM) (k:Ky) (ac w:Int):Int :=
 if (ownR its m k ac).2.2 ≠ 0 then (ownR its m k ac).2.2
 else if w<0 ∨ 1048576<w then 1
 else 0
def repX (x:Ob) (t:Item) (w:Int):Ob:={ x with wear:=if t.wear<x.wear+w then t.wear else x.wear+w }
def repM (its:List Item) (m:OM) (k:Ky) (ac w:Int):OM:=if repE its m k ac w=0 then oput m k (repX (ownR its m k ac).1 (ownR its m k ac).2.1 w) else m
set_option maxHeartbeats 4000000 in
theorem rep_spec (its:List Item) (m:OM) (k:Ky) (ac w:Int) (hm:OkS its m):CSpec Tryz.prog 32 [.ptr 0 0,ofD (eKy k),.dv (I ac),.dv (I w)] 2 (stK its m) 0 [.dv (I (repE its m k ac w))] (stK its (repM its m k ac w)):=by
 refine cspec_of tab_ok mixed (calls_snd _) (range_snd _) Tryz.func32 rfl rfl (by kernel_rfl) ?_
 refine .inr ⟨[0,1],[.ptr 0 0,ofD (eKy k),.dv (I ac)],stK its m,0,_,_,owned_spec its m k ac hm.okM,by kernel_rfl,by kernel_rfl,⟨rfl,⟨rf,rf,tv⟩,rf,tv⟩,⟨⟨rf,rf,rf,rf,rfl,tv⟩,⟨rfl,rfl⟩,tv⟩,?_⟩
 refine ⟨fun h=>?_,fun h=>?_⟩
 ·have e:repE its m k ac w=(ownR its m k ac).2.2:=by
   unfold repE; rw [if_pos (by simpa using h)]
  refine ⟨_,_,⟨rfl,rfl⟩,by kernel_rfl,⟨?_,tv⟩,⟨rf,rf,rf,rf,rfl,tv⟩,⟨rfl,?_⟩,tv⟩
  ·rw [e]; exact rf
  ·have h0:¬ (ownR its m k ac).2.2=0:=by simpa using h
   rw [repM,e,if_neg h0]
 ·have h0:(ownR its m k ac).2.2=0:=by simpa using h
  obtain ⟨x,hx,how,he⟩:=ownR_ok h0
  have hok:=hm k x hx
  rw [he]
  unfold repM repE
  rw [he]
  simp only [ne_eq,not_true_eq_false,if_false]
  repeat first | refine ⟨id,?_⟩ | refine ⟨fun _ h=>bw_f h,?_⟩ | refine ⟨fun _ h=>bw_t h,?_⟩ | refine ⟨fun h=>⟨h,fun h2=>bw_and h h2⟩,?_⟩ | refine ⟨fun h=>⟨h,fun h2=>bw_andf h h2⟩,?_⟩
  refine ⟨fun h=>?_,fun h=>?_⟩
  ·have hw:w<0 ∨ 1048576<w:=by
    by_cases h1:w<0
    ·exact .inl h1
    ·simp [h1] at h; exact .inr h
   refine ⟨_,_,⟨rfl,rfl⟩,by kernel_rfl,⟨?_,tv⟩,⟨rf,rf,rf,rf,rfl,tv⟩,⟨rfl,?_⟩,tv⟩
   ·rw [if_pos hw]; exact rf
   ·rw [if_pos hw]; rfl
  ·have hw:¬ (w<0 ∨ 1048576<w):=by
    rintro (h1 | h1) <;> simp [h1] at h
   rw [if_neg hw,if_pos rfl]
   refine ⟨fun _=>⟨by have:=hok.w0; omega,by have:=hok.w1; have:=hok.w2; omega⟩,keyTI,eKy k,rfl,rfl,eOb (repX x (its.getD x.item.toNat Item.zero) w),⟨rf,rf,rf,rf,tv⟩,rfl,false,fun _=>⟨old_closed m k,closed_eOb _⟩,?_⟩
   refine ⟨by kernel_rfl,?_⟩
   refine ⟨_,_,⟨rfl,rfl⟩,by kernel_rfl,⟨?_,tv⟩,⟨rf,rf,rf,rf,rfl,tv⟩,⟨rfl,?_⟩,tv⟩
   ·exact rf
   ·rw [mput_ky]
def givE (its:List Item) (m:OM) (k:Ky) (fr to:Int):Int :=
 if (ownR its m k fr).2.2 ≠ 0 then (ownR its m k fr).2.2
 else if isOwner to=false ∨ to=fr then 1
 else if (ownR its m k fr).1.bound=true then 11
 else 0
def givX (x:Ob) (t:Item) (to:Int):Ob:={ x with owner:=to,bound:=decide (t.bind=1) }
def givM (its:List Item) (m:OM) (k:Ky) (fr to:Int):OM:=if givE its m k fr to=0 then oput m k (givX (ownR its m k fr).1 (ownR its m k fr).2.1 to) else m
set_option maxHeartbeats 4000000 in
theorem giv_spec (its:List Item) (m:OM) (k:Ky) (fr to:Int) (hm:OkS its m):CSpec Tryz.prog 30 [.ptr 0 0,ofD (eKy k),.dv (I fr),.dv (I to)] 2 (stK its m) 0 [.dv (I (givE its m k fr to))] (stK its (givM its m k fr to)):=by
 refine cspec_of tab_ok mixed (calls_snd _) (range_snd _) Tryz.func30 rfl rfl (by kernel_rfl) ?_
 refine .inr ⟨[0,1],[.ptr 0 0,ofD (eKy k),.dv (I fr)],stK its m,0,_,_,owned_spec its m k fr hm.okM,by kernel_rfl,by kernel_rfl,⟨rfl,⟨rf,rf,tv⟩,rf,tv⟩,⟨⟨rf,rf,rf,rf,rfl,tv⟩,⟨rfl,rfl⟩,tv⟩,?_⟩
 refine ⟨fun h=>?_,fun h=>?_⟩
 ·have e:givE its m k fr to=(ownR its m k fr).2.2:=by
   unfold givE; rw [if_pos (by simpa using h)]
  refine ⟨_,_,⟨rfl,rfl⟩,by kernel_rfl,⟨?_,tv⟩,⟨rf,rf,rf,rf,rfl,tv⟩,⟨rfl,?_⟩,tv⟩
  ·rw [e]; exact rf
  ·have h0:¬ (ownR its m k fr).2.2=0:=by simpa using h
   rw [givM,e,if_neg h0]
 ·have h0:(ownR its m k fr).2.2=0:=by simpa using h
  obtain ⟨x,hx,how,he⟩:=ownR_ok h0
  have hok:=hm k x hx
  rw [he]
  unfold givM givE
  rw [he]
  simp only [ne_eq,not_true_eq_false,if_false]
  refine .inl ⟨_,fun _=>(isOwner_spec to).ok,?_⟩
  repeat first | refine ⟨id,?_⟩ | refine ⟨fun _ h=>bw_f h,?_⟩ | refine ⟨fun _ h=>bw_t h,?_⟩ | refine ⟨fun h=>⟨h,fun h2=>bw_and h h2⟩,?_⟩ | refine ⟨fun h=>⟨h,fun h2=>bw_andf h h2⟩,?_⟩
  refine ⟨fun h=>?_,fun h=>?_⟩
  ·have hw:isOwner to=false ∨ to=fr:=by
    cases h1:isOwner to with
    | false=>exact .inl rfl
    | true=>simp [h1] at h; exact .inr h
   refine ⟨_,_,⟨rfl,rfl⟩,by kernel_rfl,⟨?_,tv⟩,⟨rf,rf,rf,rf,rfl,tv⟩,⟨rfl,?_⟩,tv⟩
   ·rw [if_pos hw]; exact rf
   ·rw [if_pos hw]; rfl
  ·have hw:¬ (isOwner to=false ∨ to=fr):=by
    rintro (h1 | h1) <;> simp [h1] at h
   rw [if_neg hw]
   refine ⟨fun h=>?_,fun h=>?_⟩
   ·refine ⟨_,_,⟨rfl,rfl⟩,by kernel_rfl,⟨?_,tv⟩,⟨rf,rf,rf,rf,rfl,tv⟩,⟨rfl,?_⟩,tv⟩
    ·rw [if_pos h]; exact rf
    ·rw [if_pos h]; rfl
   ·have hb:¬ x.bound=true:=by rw [h]; simp
    rw [if_neg hb,if_pos rfl]
    refine ⟨keyTI,eKy k,rfl,rfl,eOb (givX x (its.getD x.item.toNat Item.zero) to),⟨rf,rf,rf,rf,tv⟩,rfl,false,fun _=>⟨old_closed m k,closed_eOb _⟩,?_⟩
    refine ⟨by kernel_rfl,?_⟩
    refine ⟨_,_,⟨rfl,rfl⟩,by kernel_rfl,⟨?_,tv⟩,⟨rf,rf,rf,rf,rfl,tv⟩,⟨rfl,?_⟩,tv⟩
    ·exact rf
    ·rw [mput_ky]
end Go.Proofs.YtccialgeakmmpaaGreatDoor
