import Derived.Test.YtfcfbfkjdenpdaaK3Q13
import Derived.Test.YtfcfbfkjdenpdaaK3Q6
import Derived.Test.YtfcfbfkjdenpdaaK3R6
set_option linter.unusedVariables false
set_option linter.unusedSimpArgs false
set_option linter.unusedSectionVars false
namespace Go.Proofs.Ytfcfbfkjdenpdaa
open Go.TM
theorem orZ_way {o:Option Fau} (h:∀f,o=some f→f.way.length≤1000000):(orZ o).way.length≤1000000:=by
 cases o with
 | none=>simp [orZ,zFau]
 | some f=>exact h f rfl
theorem lossR_way {d:Dea} (hs:Parts d) {f p:Int} {g:Fau} (h:lossR d f p=some g):g.way.length≤1000000:=by
 unfold lossR at h
 obtain ⟨z,hz,h⟩:=List.exists_of_findSome?_eq_some h
 unfold lossS at h
 split at h
 ·cases h
 ·obtain ⟨t,-,h⟩:=List.exists_of_findSome?_eq_some h
  unfold lossF at h
  split at h
  ·injection h with h
   rw [←h]
   have hv:z.2∈(disc d).ways:=(List.of_mem_zip hz).2
   have h1:=(disc_ok d).way z.2 hv
   have h2:=(disc_ok d).le
   have h3:=hs.st
   simp only [List.length_append,List.length_cons,List.length_nil]
   omega
  ·cases h
theorem condS_way {n:Nat} {d:Dea} (hs:Parts d) {w:Nat} {s:Int} {v:List Int} {x:Sta} (hv:v.length≤1000):(condS n d w s v x).way.length≤1000000:=by
 unfold condS
 split
 ·split <;> (dsimp only; omega)
 ·split <;> (dsimp only; omega)
 ·split <;> (dsimp only; omega)
 ·split <;> (dsimp only; omega)
 ·split
  ·refine orZ_way fun f hf=>?_
   unfold lossAll at hf
   obtain ⟨p,-,hf⟩:=List.exists_of_findSome?_eq_some hf
   unfold lossA at hf
   split at hf
   ·exact lossR_way hs hf
   ·cases hf
  ·dsimp only; omega
theorem checkF_way (n:Int) (d:Dea) (hs:Parts d):(checkF n d).way.length≤1000000:=by
 unfold checkF
 split
 ·refine orZ_way fun f hf=>?_
  unfold chk at hf
  obtain ⟨w,-,hf⟩:=List.exists_of_findSome?_eq_some hf
  unfold condW at hf
  obtain ⟨z,hz,hf⟩:=List.exists_of_findSome?_eq_some hf
  have hv:z.2∈(disc d).ways:=(List.of_mem_zip hz).2
  have h1:=(disc_ok d).way z.2 hv
  have h2:=(disc_ok d).le
  have h3:=hs.st
  unfold condZ at hf
  split at hf
  ·unfold codeN at hf
   split at hf
   ·cases hf
   ·injection hf with hf
    rw [←hf]
    exact condS_way hs (by omega)
  ·cases hf
 ·exact analyze_way hs
set_option maxRecDepth 100000 in
set_option maxHeartbeats 4000000 in
theorem checks_spec (l:List Int) (hl:∀x,x∈l→InI x) (a b n:Int) (ha:InI a) (hb:InI b) (hn:InI n):PSpec Try.prog 4 [Ints l,I a,I b,I n] [B true]:=by
 refine pspec_of tab_ok mixed (calls_snd _) (range_snd _) Try.func4 rfl (by kernel_rfl) rfl ?_
 refine .inl ⟨_,fun _=>(deals_spec l hl a b n ha hb hn).ok,?_⟩
 have hpt:=dealsOf_parts l a b n
 have hsz:=dealsOf_sz l a b n
 have hal:(dealsOf l a b n).length=4:=rfl
 generalize dealsOf l a b n=all at *
 have har:=around_bd n 70 (by omega)
 refine .inl ⟨_,fun _=>(around_spec n 70 hn (by omega)).ok,fun _=>⟨by omega,by omega⟩,?_⟩
 generalize around n 70 - 2=N at *
 refine .inl ⟨[I 5,I 3,I 2,I N],rfl,⟨rf,rf,rf,rf,tv⟩,fun y hy=>(by simp at hy; rcases hy with rfl | rfl | rfl | rfl <;> rfl),?_⟩
 refine ⟨Nat,fun i=>⟨0,[(9,.dv (.sl 3 (all.map eDea))),(10,.dv (Ints [5,3,2,N])),(11,.dv (I i))],[]⟩,fun i=>i≤4,fun i=>4 - i,0,fun _=>rfl,⟨⟨rf,rf,rf,tv⟩,tv,rfl,rfl⟩,by omega,?_⟩
 intro i hi
 refine ⟨fun h=>?_,fun h=>?_⟩
 ·have hlt:i<all.length:=by simpa using h
  clear h
  generalize hd':all[i]=d at *
  have hdi:all[i]?=some d:=by rw [List.getElem?_eq_getElem hlt,hd']
  have hmem:=List.mem_of_getElem? hdi
  have hs:=hsz d hmem
  have hp:=hpt d hmem
  refine ⟨Nat,fun k=>⟨0,[(9,.dv (.sl 3 (all.map eDea))),(10,.dv (Ints [5,3,2,N])),(11,.dv (I i)),(12,.dv (I k))],[]⟩,fun k=>k≤4,fun k=>4 - k,0,fun _=>rfl,⟨⟨rf,rf,rf,rf,tv⟩,tv,rfl,rfl⟩,by omega,?_⟩
  intro k hk
  refine ⟨fun h=>?_,fun h=>?_⟩
  ·have hkl:k<4:=by
    have:(k:Int)<4:=of_decide_eq_true h
    omega
   clear h
   obtain ⟨m,hm⟩:∃m,([5,3,2,N]:List Int)[k]?=some m:=⟨_,List.getElem?_eq_getElem (by simp; omega)⟩
   have hmi:true=true→0≤(k:Int)∧(([5,3,2,N]:List Int).map I)[((k:Int)).toNat]?=some (I m):=fun _=>⟨by omega,by rw [Int.toNat_natCast,List.getElem?_map,hm]; rfl⟩
   have hdd:true=true→0≤(i:Int)∧(all.map eDea)[((i:Int)).toNat]?=some (eDea d):=fun _=>⟨by omega,by simp [hdi]⟩
   have hwy:=checkF_way m d hp
   have hsp:=sCheck_spec m d hp
   have hrp:=Check_spec m d hp
   generalize checkF m d=f at *
   refine ⟨I m,hmi,eDea d,hdd,.inl ⟨_,fun _=>(lgiven_spec d hs).ok,.inl ⟨_,fun _=>hsp.ok,?_⟩⟩⟩
   refine ⟨I m,hmi,eDea d,hdd,.inl ⟨_,fun _=>hrp.ok,?_⟩⟩
   refine .inl ⟨_,fun _=>(same2_spec f hwy).ok,by kernel_rfl,(fun h=>by cases h),fun _=>?_⟩
   exact ⟨fun _=>⟨by omega,by omega⟩,k+1,⟨⟨rf,rf,rf,le_int (by omega),tv⟩,tv,rfl,rfl⟩,by dsimp only; omega,by dsimp only; omega⟩
  ·exact ⟨fun _=>⟨by omega,by omega⟩,i+1,⟨⟨rf,rf,le_int (by omega),tv⟩,tv,rfl,rfl⟩,by dsimp only; omega,by dsimp only; omega⟩
 ·exact .inl ⟨_,fun _=>lives_spec.ok,rf,tv⟩
end Go.Proofs.Ytfcfbfkjdenpdaa
