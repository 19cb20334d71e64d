import Derived.Test.YtfcfbfkjdenpdaaK4A3
import Derived.Test.YtfcfbfkjdenpdaaK4D3
set_option linter.unusedVariables false
set_option linter.unusedSimpArgs false
set_option linter.unusedSectionVars false
namespace Go.Proofs.Ytfcfbfkjdenpdaa
open Go.TM
theorem isNaN_spec (a:Int):PSpec Try.prog 117 [I a] [B false]:=by
 refine pspec_of tab_ok mixed (calls_snd _) (range_snd _) Try.func117 rfl (by kernel_rfl) rfl ?_
 exact ⟨DV.Le.of_eq (by simp),tv⟩
theorem less_spec (a b:Int):PSpec Try.prog 107 [I a,I b] [B (decide (a<b))]:=by
 refine pspec_of tab_ok mixed (calls_snd _) (range_snd _) Try.func107 rfl (by kernel_rfl) rfl ?_
 refine .inl ⟨_,fun _=>(isNaN_spec a).ok,?_⟩
 refine ⟨id,.inl ⟨_,fun _=>(isNaN_spec b).ok,?_⟩⟩
 repeat first | refine ⟨id,?_⟩ | refine ⟨fun _ h=>bw_f h,?_⟩ | refine ⟨fun _ h=>bw_t h,?_⟩ | refine ⟨fun h=>⟨h,fun h2=>bw_and h h2⟩,?_⟩ | refine ⟨fun h=>⟨h,fun h2=>bw_andf h h2⟩,?_⟩
 exact ⟨DV.Le.of_eq (by rfl),tv⟩
def insAt:List Int→Nat→List Int
 | l,0=>l
 | l,j+1=>match l[j]?,l[j+1]? with
  | some a,some b=>if b<a then insAt ((l.set (j+1) a).set j b) j else l
  | _,_=>l
def isortN (l:List Int):Nat→List Int
 | 0=>l
 | k+1=>insAt (isortN l k) (k+1)
theorem insAt_len:∀(j:Nat) (l:List Int),(insAt l j).length=l.length
 | 0,l=>rfl
 | j+1,l=>by
  simp only [insAt]
  split
  ·split
   ·rw [insAt_len j]; simp
   ·rfl
  ·rfl
theorem isortN_len (l:List Int):∀k,(isortN l k).length=l.length
 | 0=>rfl
 | k+1=>by simp only [isortN]; rw [insAt_len,isortN_len l k]
structure InI2 where
 j:Nat
 c:List Int
set_option maxHeartbeats 4000000 in
theorem insSort_spec (l:List Int) (hl:l.length≤1000):CSpec Try.prog 101 [.own 0 0 0 [],.dv (I 0),.dv (I l.length)] 1 [(0,.tree 0 0 (.osl 1 (l.map I)))] 0 [] [(0,.tree 0 0 (.osl 1 ((isortN l (l.length - 1)).map I)))]:=by
 refine cspec_of tab_ok mixed (calls_snd _) (range_snd _) Try.func101 rfl rfl (by kernel_rfl) ?_
 refine ⟨fun _=>⟨by omega,by omega⟩,?_⟩
 refine ⟨Nat,fun k=>⟨1,[(0,.own 0 0 0 []),(1,.dv (I 0)),(2,.dv (I l.length)),(6,.dv (I (1+k)))],[(0,.tree 0 0 (.osl 1 ((isortN l k).map I)))]⟩,fun k=>k≤l.length - 1,fun k=>l.length - k,0,fun _=>rfl,⟨⟨rfl,rf,rf,rf,tv⟩,⟨⟨rfl,rfl⟩,tv⟩,rfl,rfl⟩,by omega,?_⟩
 intro k hk
 refine ⟨fun h=>?_,fun h=>?_⟩
 ·have hkl:1+k<l.length:=by
   have:(1+(k:Int))<l.length:=of_decide_eq_true h
   omega
  clear h
  have hcl:=isortN_len l k
  refine ⟨InI2,fun z=>⟨1,[(0,.own 0 0 0 []),(1,.dv (I 0)),(2,.dv (I l.length)),(6,.dv (I (1+k))),(7,.dv (I z.j))],[(0,.tree 0 0 (.osl 1 (z.c.map I)))]⟩,fun z=>z.j≤k+1∧z.c.length=l.length∧insAt z.c z.j=isortN l (k+1),fun z=>z.j,⟨k+1,isortN l k⟩,fun _=>rfl,⟨⟨rfl,rf,rf,rf,le_int (by simp; omega),tv⟩,⟨⟨rfl,rfl⟩,tv⟩,rfl,rfl⟩,⟨by simp,hcl,rfl⟩,?_⟩
  rintro ⟨j,c⟩ ⟨hj1,hj2,hj3⟩
  dsimp only at hj1 hj2 hj3
  cases j with
  | zero =>
   refine ⟨id,id,(fun h=>by cases h),id,I 0,(fun h=>by cases h),?_⟩
   refine ⟨id,(fun h=>by cases h),id,id,(fun h=>by cases h),id,I 0,(fun h=>by cases h),?_⟩
   refine ⟨id,id,.inl ⟨[B false],(fun h=>by cases h),fun _ h=>bw_t h,by kernel_rfl,(fun h=>by cases h),fun _=>?_⟩⟩
   exact ⟨fun _=>⟨by omega,by omega⟩,k+1,⟨⟨rfl,rf,rf,le_int (by omega),tv⟩,⟨⟨rfl,by rw [←hj3]; rfl⟩,tv⟩,rfl,rfl⟩,by omega,by dsimp only; omega⟩
  | succ j =>
   obtain ⟨b,hb⟩:∃b,c[j+1]?=some b:=⟨_,List.getElem?_eq_getElem (by omega)⟩
   obtain ⟨a,ha⟩:∃a,c[j]?=some a:=⟨_,List.getElem?_eq_getElem (by omega)⟩
   have e1:(((j+1:Nat):Int)).toNat=j+1:=by omega
   have e2:(((j+1:Nat):Int) - 1).toNat=j:=by omega
   refine ⟨id,id,fun _=>⟨by dsimp only; omega,by dsimp only; simp; omega⟩,id,I b,fun _=>by dsimp only; rw [e1,List.getElem?_map,hb]; rfl,?_⟩
   refine ⟨id,fun _=>⟨by dsimp only; omega,by dsimp only; omega⟩,id,id,fun _=>⟨by dsimp only; omega,by dsimp only; simp; omega⟩,id,I a,fun _=>by dsimp only; rw [e2,List.getElem?_map,ha]; rfl,?_⟩
   refine ⟨id,id,.inl ⟨_,fun _=>(less_spec b a).ok,fun _ h=>bw_t h,by kernel_rfl,fun h=>?_,fun h=>?_⟩⟩
   ·obtain ⟨-,h2⟩:=bif_t h
    have hlt:b<a:=of_decide_eq_true h2
    clear h h2
    have hins:insAt c (j+1)=insAt ((c.set (j+1) a).set j b) j:=by simp only [insAt,ha,hb,if_pos hlt]
    have hm2:(c.set (j+1) a)[j]?=some a:=by rw [List.getElem?_set,if_neg (by omega),ha]
    have har:true=true→-9223372036854775808≤(((j+1:Nat):Int)) - 1∧(((j+1:Nat):Int)) - 1≤9223372036854775807:=fun _=>⟨by omega,by omega⟩
    refine ⟨har,har,fun _=>⟨by dsimp only; omega,by dsimp only; simp; omega⟩,I a,fun _=>by dsimp only; rw [e2,List.getElem?_map,ha]; rfl,?_⟩
    refine ⟨fun _=>⟨by dsimp only; omega,by dsimp only; simp; omega⟩,I b,fun _=>by dsimp only; rw [e1,List.getElem?_map,hb]; rfl,?_⟩
    refine ⟨fun _=>⟨by dsimp only; omega,by dsimp only; simp; omega⟩,[I a],⟨rf,tv⟩,I b,(by dsimp only; rw [e1,List.getElem?_map,hb]; rfl),?_⟩
    refine ⟨fun _=>⟨by dsimp only; omega,by dsimp only; simp; omega⟩,[I b],⟨rf,tv⟩,I a,?_,by kernel_rfl,?_⟩
    ·show ((c.map I).set (((j+1:Nat):Int)).toNat (I a))[(((j+1:Nat):Int) - 1).toNat]?=some (I a)
     rw [e1,e2,←List.map_set,List.getElem?_map,hm2]; rfl
    refine ⟨fun _=>⟨by dsimp only; omega,by dsimp only; omega⟩,⟨j,(c.set (j+1) a).set j b⟩,⟨⟨rfl,rf,rf,rf,le_int (by dsimp only; omega),tv⟩,⟨⟨rfl,?_⟩,tv⟩,rfl,rfl⟩,⟨by dsimp only; omega,by simp [hj2],by dsimp only; rw [←hins]; exact hj3⟩,by dsimp only; omega⟩
    show DV.osl 1 (((c.map I).set (((j+1:Nat):Int)).toNat (I a)).set (((j+1:Nat):Int) - 1).toNat (I b))=.osl 1 (((c.set (j+1) a).set j b).map I)
    rw [e1,e2,List.map_set,List.map_set]
   ·have hlt:¬ b<a:=fun hlt=>by
     have:=bif_f h
     exact this ⟨by first | simp | (simp; omega),decide_eq_true hlt⟩
    have hins:insAt c (j+1)=c:=by simp only [insAt,ha,hb,if_neg hlt]
    exact ⟨fun _=>⟨by omega,by omega⟩,k+1,⟨⟨rfl,rf,rf,le_int (by omega),tv⟩,⟨⟨rfl,by rw [←hj3,hins]⟩,tv⟩,rfl,rfl⟩,by omega,by dsimp only; omega⟩
 ·have hke:k=l.length - 1:=by
   have:¬ (1+(k:Int))<l.length:=of_decide_eq_false h
   omega
  subst hke
  exact ⟨_,_,⟨rfl,rfl⟩,by kernel_rfl,tv,⟨rfl,rfl⟩,tv⟩
end Go.Proofs.Ytfcfbfkjdenpdaa
namespace Go.Proofs.Ytfcfbfkjdenpdaa
open Go.TM
def lens:List Int:=[0,1,2,2,3,3,3,3,4,4,4,4,4]
theorem upto12 {m:Nat} (h:m≤12):m=0 ∨ m=1 ∨ m=2 ∨ m=3 ∨ m=4 ∨ m=5 ∨ m=6 ∨ m=7 ∨ m=8 ∨ m=9 ∨ m=10 ∨ m=11 ∨ m=12:=by omega
set_option maxRecDepth 100000 in
set_option maxHeartbeats 4000000 in
theorem len64_spec (m:Nat) (hm:m≤12):PSpec Try.prog 111 [.int .u64 m] [I (lens.getD m 0)]:=by
 refine pspec_of tab_ok mixed (calls_snd _) (range_snd _) Try.func111 rfl (by kernel_rfl) rfl ?_
 obtain rfl | rfl | rfl | rfl | rfl | rfl | rfl | rfl | rfl | rfl | rfl | rfl | rfl:=upto12 hm
 all_goals
  refine ⟨(fun h=>by cases h),fun _=>⟨(fun h=>by cases h),fun _=>⟨(fun h=>by cases h),fun _=>?_⟩⟩⟩
  exact ⟨_,fun _=>⟨by decide,rfl⟩,fun _=>⟨by decide,by decide⟩,le_int (by decide),tv⟩
theorem len_spec (m:Nat) (hm:m≤12):PSpec Try.prog 94 [.int .u64 m] [I (lens.getD m 0)]:=by
 refine pspec_of tab_ok mixed (calls_snd _) (range_snd _) Try.func94 rfl (by kernel_rfl) rfl ?_
 exact ⟨(fun h=>by cases h),fun _=>.inl ⟨_,fun _=>(len64_spec m hm).ok,rf,tv⟩⟩
set_option maxRecDepth 100000 in
set_option maxHeartbeats 4000000 in
theorem pdq_spec (l:List Int) (hl:l.length≤12) (q:Int):CSpec Try.prog 93 [.own 0 0 0 [],.dv (I 0),.dv (I l.length),.dv (I q)] 1 [(0,.tree 0 0 (.osl 1 (l.map I)))] 0 [] [(0,.tree 0 0 (.osl 1 ((isortN l (l.length - 1)).map I)))]:=by
 refine cspec_of tab_ok mixed (calls_snd _) (range_snd _) Try.func93 rfl rfl (by kernel_rfl) ?_
 refine ⟨Unit,fun _=>⟨1,[(0,.own 0 0 0 []),(1,.dv (I 0)),(2,.dv (I l.length))],[(0,.tree 0 0 (.osl 1 (l.map I)))]⟩,fun _=>True,fun _=>0,(),fun _=>rfl,⟨⟨rfl,rf,rf,tv⟩,⟨⟨rfl,rfl⟩,tv⟩,rfl,rfl⟩,tv,?_⟩
 intro _ _
 refine ⟨fun _=>⟨by omega,by omega⟩,fun _=>?_,fun h=>?_⟩
 ·refine .inr ⟨[0],[.own 0 0 0 [],.dv (I 0),.dv (I l.length)],[(0,.tree 0 0 (.osl 1 (l.map I)))],0,_,_,insSort_spec l (by omega),by kernel_rfl,by kernel_rfl,⟨rfl,rf,rf,tv⟩,⟨⟨rfl,rfl⟩,tv⟩,?_⟩
  exact ⟨_,_,⟨rfl,rfl⟩,by kernel_rfl,tv,⟨rfl,rfl⟩,tv⟩
 ·exfalso
  have h:¬ (l.length:Int) - 0≤12:=of_decide_eq_false h
  omega
set_option maxHeartbeats 4000000 in
theorem sort_spec (l:List Int) (hl:l.length≤12):CSpec Try.prog 78 [.own 0 0 0 []] 1 [(0,.tree 0 0 (.osl 1 (l.map I)))] 0 [] [(0,.tree 0 0 (.osl 1 ((isortN l (l.length - 1)).map I)))]:=by
 refine cspec_of tab_ok mixed (calls_snd _) (range_snd _) Try.func78 rfl rfl (by kernel_rfl) ?_
 have hwr:IntKind.u64.wrap ((l.map I).length:Int)=(l.length:Int):=by
  rw [List.length_map]
  obtain h | h | h | h | h | h | h | h | h | h | h | h | h:=upto12 hl <;> rw [h] <;> decide
 have hok:CallOk Try.prog 94 [.int .u64 (IntKind.u64.wrap ((l.map I).length:Int))] [I (lens.getD l.length 0)]:=by
  rw [hwr]; exact (len_spec l.length hl).ok
 refine .inl ⟨_,fun _=>hok,?_⟩
 have hp:=pdq_spec l hl (lens.getD l.length 0)
 refine .inr ⟨[0],[.own 0 0 0 [],.dv (I 0),.dv (I l.length),.dv (I (lens.getD l.length 0))],[(0,.tree 0 0 (.osl 1 (l.map I)))],0,_,_,hp,by kernel_rfl,by kernel_rfl,⟨rfl,rf,le_int (by simp),rf,tv⟩,⟨⟨rfl,rfl⟩,tv⟩,?_⟩
 exact ⟨_,_,⟨rfl,rfl⟩,by kernel_rfl,tv,⟨rfl,rfl⟩,tv⟩
end Go.Proofs.Ytfcfbfkjdenpdaa
namespace Go.Proofs.Ytfcfbfkjdenpdaa
open Go.TM
def vSl:List AV:=(List.replicate 13 .any).set 2 (.ptr 1 0)
def vK (rc:RC) (o:List Int) (v:Nat):Boxes:=[(0,.rcd rc .ready vSl),(1,.cells [.own 2 v 0 []]),(2,.tree v 0 (.osl 1 (o.map I)))]
theorem vbody_spec (o:List Int) (ho:o.length≤1000000) (x:Int):YSpecR Try.prog [.dv (I x)] 3 (vK (rcF Try.f92) o 0) 0 fun r k=>r=[.dv (.bool true)]∧k=vK (rcF Try.f92) (o++[x]) 1:=by
 refine yspecR_of tab_ok mixed rfl (by kernel_rfl) ?_
 refine .inl ⟨[I x],rfl,⟨rf,tv⟩,fun y hy=>(by rcases List.mem_singleton.1 hy with rfl; rfl),.inr ⟨[I x],ELes.refl _,(by rw [by22]; simp; omega),(by simp; omega),?_⟩⟩
 exact ⟨_,_,⟨rfl,rfl⟩,by kernel_rfl,⟨rf,tv⟩,⟨rfl,rfl,subWs_ok (by kernel_rfl)⟩,⟨rfl,tv⟩,⟨rfl,by simp⟩,tv⟩
def vE (rc:RC) (l:List Int):Boxes:=[(0,.rcd rc .ready vSl),(1,.cells [.dv .nils]),(2,.cells [.own 3 0 0 []]),(3,.tree 0 0 (.osl 1 (l.map I)))]
def vF (rc:RC) (l o:List Int):Boxes:=[(0,.rcd rc .ready vSl),(1,.cells [.own 4 0 0 []]),(2,.cells [.own 3 0 0 []]),(3,.tree 0 0 (.osl 1 (l.map I))),(4,.tree 0 0 (.osl 1 (o.map I)))]
set_option maxRecDepth 100000 in
set_option maxHeartbeats 4000000 in
theorem values1_spec (rc:RC) (l:List Int) (hl:l.length≤1000) (hY:∀(o:List Int) (x:Int),o.length≤1000000→YSpecR Try.prog [.dv (I x)] 3 (vK rc o 0) 0 fun r k=>r=[.dv (.bool true)]∧k=vK rc (o++[x]) 1):CSpec Try.prog 79 [.yld 0,.ptr 2 0] 4 (vE rc l) 1 [] (vF rc l l):=by
 refine cspec_of tab_ok mixed (calls_snd _) (range_snd _) Try.func79 rfl rfl (by kernel_rfl) ?_
 refine ⟨Nat,fun k=>⟨5,[(0,.yld 0),(5,.own 3 0 0 []),(6,.dv (I l.length)),(7,.dv (I k))],vF rc l (l.take k)⟩,fun k=>k≤l.length,fun k=>l.length - k,0,(fun _=>by kernel_rfl),?_,by omega,?_⟩
 ·exact ⟨⟨rfl,rfl,le_int (by simp),rf,tv⟩,⟨⟨rfl,rfl,subWs_ok (by kernel_rfl)⟩,⟨⟨rfl,rfl,rfl,rfl,1,rfl⟩,tv⟩,⟨rfl,tv⟩,⟨rfl,rfl⟩,⟨rfl,rfl,1,rfl⟩,tv⟩,by kernel_rfl,by kernel_rfl⟩
 intro k hk
 refine ⟨fun h=>?_,fun h=>?_⟩
 ·have hk:k<l.length:=by
   have:(k:Int)<l.length:=of_decide_eq_true h
   omega
  clear h
  generalize he':l[k]=e at *
  have he:l[k]?=some e:=by rw [List.getElem?_eq_getElem hk,he']
  have hy:=hY (l.take k) e (by simp; omega)
  refine ⟨fun _=>⟨by omega,by simp; omega⟩,I e,fun _=>by simp [he],?_⟩
  refine .inl ⟨[0,1,4],[.dv (I e)],vK rc (l.take k) 0,0,_,_,hy,by kernel_rfl,by kernel_rfl,⟨rf,tv⟩,⟨⟨rfl,rfl,subWs_ok (by kernel_rfl)⟩,⟨rfl,tv⟩,⟨rfl,rfl⟩,tv⟩,?_⟩
  have htk:l.take (k+1)=l.take k++[e]:=by rw [List.take_add_one,he]; rfl
  refine ⟨(fun h=>by cases h),fun _=>⟨fun _=>⟨by omega,by omega⟩,k+1,⟨⟨rfl,rfl,rf,le_int (by omega),tv⟩,⟨⟨rfl,rfl,subWs_ok (by kernel_rfl)⟩,⟨rfl,tv⟩,⟨rfl,tv⟩,⟨rfl,rfl⟩,⟨rfl,by rw [htk]⟩,tv⟩,by kernel_rfl,by kernel_rfl⟩,by omega,by dsimp only; omega⟩⟩
 ·have hk:k=l.length:=by
   have:¬ (k:Int)<l.length:=of_decide_eq_false h
   omega
  subst hk
  exact ⟨_,_,⟨rfl,rfl⟩,by kernel_rfl,tv,⟨rfl,rfl,subWs_ok (by kernel_rfl)⟩,⟨rfl,tv⟩,⟨rfl,tv⟩,⟨rfl,rfl⟩,⟨rfl,by rw [List.take_length]⟩,tv⟩
theorem values0_spec (l:List Int):CSpec Try.prog 45 [.own 0 0 0 []] 1 [(0,.tree 0 0 (.osl 1 (l.map I)))] 1 [.fn 79 [.ptr 1 0]] [(0,.tree 0 0 (.osl 1 (l.map I))),(1,.cells [.own 0 0 0 []])]:=by
 refine cspec_of tab_ok mixed (calls_snd _) (range_snd _) Try.func45 rfl rfl (by kernel_rfl) ?_
 exact ⟨_,_,⟨rfl,rfl⟩,by kernel_rfl,⟨⟨rfl,rfl,tv⟩,tv⟩,⟨rfl,rfl⟩,⟨rfl,tv⟩,tv⟩
def wE (l:List Int):Boxes:=[(0,.cells [.own 1 0 0 []]),(1,.tree 0 0 (.osl 1 (l.map I)))]
set_option maxRecDepth 100000 in
set_option maxHeartbeats 4000000 in
theorem appendSeq_spec (l:List Int) (hl:l.length≤1000):CSpec Try.prog 92 [.dv .nils,.fn 79 [.ptr 0 0]] 2 (wE l) 3 [.own 4 0 0 []] (wE l++[(4,.tree 0 0 (.osl 1 (l.map I)))]):=by
 refine cspec_of tab_ok mixed (calls_snd _) (range_snd _) Try.func92 rfl rfl (by kernel_rfl) ?_
 refine ⟨rcF Try.f92,by kernel_rfl,?_⟩
 have h79:=values1_spec (rcF Try.f92) l hl (fun o x ho=>vbody_spec o ho x)
 refine ⟨[3,2,0,1],[.yld 0,.ptr 2 0],vE (rcF Try.f92) l,1,_,h79,by kernel_rfl,⟨rfl,rfl,tv⟩,⟨⟨rfl,rfl,subWs_sOk (by kernel_rfl)⟩,⟨rf,tv⟩,⟨rfl,tv⟩,⟨rfl,rfl⟩,tv⟩,?_⟩
 rintro rs K2 ⟨rfl,rfl⟩
 refine ⟨by kernel_rfl,?_⟩
 conv=>whnf
 exact ⟨_,_,⟨rfl,rfl⟩,by kernel_rfl,⟨rfl,tv⟩,⟨rfl,tv⟩,⟨rfl,rfl⟩,⟨rfl,rfl⟩,tv⟩
set_option maxHeartbeats 4000000 in
theorem collect_spec (l:List Int) (hl:l.length≤1000):CSpec Try.prog 77 [.fn 79 [.ptr 0 0]] 2 (wE l) 3 [.own 4 0 0 []] (wE l++[(4,.tree 0 0 (.osl 1 (l.map I)))]):=by
 refine cspec_of tab_ok mixed (calls_snd _) (range_snd _) Try.func77 rfl rfl (by kernel_rfl) ?_
 refine .inr ⟨[0,1],[.dv .nils,.fn 79 [.ptr 0 0]],wE l,3,_,_,appendSeq_spec l hl,by kernel_rfl,by kernel_rfl,⟨rf,⟨rfl,rfl,tv⟩,tv⟩,⟨⟨rfl,tv⟩,⟨rfl,rfl⟩,tv⟩,?_⟩
 exact ⟨_,_,⟨rfl,rfl⟩,by kernel_rfl,⟨rfl,tv⟩,⟨rfl,tv⟩,⟨rfl,rfl⟩,⟨rfl,rfl⟩,tv⟩
set_option maxHeartbeats 4000000 in
theorem sorted_spec (l:List Int) (hl:l.length≤12):CSpec Try.prog 44 [.fn 79 [.ptr 0 0]] 2 (wE l) 3 [.own 4 0 0 []] (wE l++[(4,.tree 0 0 (.osl 1 ((isortN l (l.length - 1)).map I)))]):=by
 refine cspec_of tab_ok mixed (calls_snd _) (range_snd _) Try.func44 rfl rfl (by kernel_rfl) ?_
 refine .inr ⟨[0,1],[.fn 79 [.ptr 0 0]],wE l,3,_,_,collect_spec l (by omega),by kernel_rfl,by kernel_rfl,⟨⟨rfl,rfl,tv⟩,tv⟩,⟨⟨rfl,tv⟩,⟨rfl,rfl⟩,tv⟩,?_⟩
 refine .inr ⟨[4],[.own 0 0 0 []],[(0,.tree 0 0 (.osl 1 (l.map I)))],0,_,_,sort_spec l hl,by kernel_rfl,by kernel_rfl,⟨rfl,tv⟩,⟨⟨rfl,rfl⟩,tv⟩,?_⟩
 exact ⟨_,_,⟨rfl,rfl⟩,by kernel_rfl,⟨rfl,tv⟩,⟨rfl,tv⟩,⟨rfl,rfl⟩,⟨rfl,rfl⟩,tv⟩
end Go.Proofs.Ytfcfbfkjdenpdaa
namespace Go.Proofs.Ytfcfbfkjdenpdaa
open Go.TM
theorem swap_form {l:List Int} {j:Nat} {a b:Int} (ha:l[j]?=some a) (hb:l[j+1]?=some b):∃p q,l=p++a::b::q∧p.length=j∧(l.set (j+1) a).set j b=p++b::a::q:=by
 have hj:j+1<l.length:=(List.getElem?_eq_some_iff.1 hb).1
 refine ⟨l.take j,l.drop (j+2),?_,by simp; omega,?_⟩
 ·have h1:=List.drop_eq_getElem_cons (show j<l.length by omega)
  have h2:=List.drop_eq_getElem_cons hj
  rw [List.getElem?_eq_getElem (by omega)] at ha hb
  injection ha with ha; injection hb with hb
  rw [ha] at h1; rw [hb] at h2
  rw [show j+2=j+1+1 from rfl,←h2,←h1,List.take_append_drop]
 ·have h1:=List.drop_eq_getElem_cons (show j<l.length by omega)
  have h2:=List.drop_eq_getElem_cons hj
  rw [List.getElem?_eq_getElem (by omega)] at ha hb
  injection ha with ha; injection hb with hb
  rw [ha] at h1; rw [hb] at h2
  have e:l=l.take j++a::b::l.drop (j+2):=by rw [show j+2=j+1+1 from rfl,←h2,←h1,List.take_append_drop]
  generalize hp:l.take j=p at *
  generalize hq:l.drop (j+2)=q at *
  have hpl:p.length=j:=by rw [←hp]; simp; omega
  rw [e,List.set_append_right _ _ (by omega),hpl,show j+1 - j=1 by omega,List.set_append_right _ _ (by omega),hpl,Nat.sub_self]
  rfl
theorem insAt_perm:∀(j:Nat) (l:List Int),(insAt l j).Perm l
 | 0,l=>.refl _
 | j+1,l=>by
  simp only [insAt]
  split
  ·rename_i a b ha hb
   split
   ·obtain ⟨p,q,h1,h2,h3⟩:=swap_form ha hb
    refine (insAt_perm j _).trans ?_
    rw [h3]
    conv=>rhs; rw [h1]
    exact List.Perm.append_left p (List.Perm.swap a b q)
   ·exact .refl _
  ·exact .refl _
theorem isortN_perm (l:List Int):∀k,(isortN l k).Perm l
 | 0=>.refl _
 | k+1=>(insAt_perm _ _).trans (isortN_perm l k)
abbrev at' (l:List Int) (i:Nat):Int:=l.getD i 0
theorem at_set {l:List Int} {k i:Nat} {x:Int} (hk:k<l.length):at' (l.set k x) i=if i=k then x else at' l i:=by
 unfold at'
 rw [List.getD_eq_getElem?_getD,List.getD_eq_getElem?_getD,List.getElem?_set]
 by_cases h:k=i
 ·subst h; simp [hk]
 ·rw [if_neg h,if_neg (fun e=>h e.symm)]
theorem at_some {l:List Int} {i:Nat} {a:Int} (h:l[i]?=some a):at' l i=a:=by
 unfold at'; rw [List.getD_eq_getElem?_getD,h]; rfl
structure Near' (l:List Int) (j m:Nat):Prop where
 adj:∀i,i+1<m→i+1 ≠ j→at' l i≤at' l (i+1)
 skip:∀i,i+1=j→j+1<m→at' l i≤at' l (j+1)
theorem insAt_sorted:∀(j:Nat) (l:List Int) (m:Nat),j<m→m≤l.length→Near' l j m→∀i,i+1<m→at' (insAt l j) i≤at' (insAt l j) (i+1)
 | 0,l,m,_,_,h=>fun i hi=>h.adj i hi (by omega)
 | j+1,l,m,hj,hm,h=>by
  obtain ⟨a,ha⟩:∃a,l[j]?=some a:=⟨_,List.getElem?_eq_getElem (by omega)⟩
  obtain ⟨b,hb⟩:∃b,l[j+1]?=some b:=⟨_,List.getElem?_eq_getElem (by omega)⟩
  have hA:=at_some ha
  have hB:=at_some hb
  by_cases hlt:b<a
  ·have e:insAt l (j+1)=insAt ((l.set (j+1) a).set j b) j:=by simp only [insAt,ha,hb,if_pos hlt]
   rw [e]
   have hl1:j+1<l.length:=by omega
   have hat:∀i,at' ((l.set (j+1) a).set j b) i=if i=j then b else if i=j+1 then a else at' l i:=fun i=>by
    rw [at_set (by simp; omega),at_set hl1]
   refine insAt_sorted j _ m (by omega) (by simpa using hm) ⟨fun i hi hne=>?_,fun i hij hjm=>?_⟩
   ·rw [hat,hat]
    by_cases h1:i=j
    ·subst h1
     rw [if_pos rfl,if_neg (by omega),if_pos rfl]; omega
    ·by_cases h2:i=j+1
     ·subst h2
      have:=h.skip j rfl hi
      rw [if_neg (by omega),if_pos rfl,if_neg (by omega),if_neg (by omega)]
      omega
     ·rw [if_neg h1,if_neg h2,if_neg hne,if_neg (by omega)]
      exact h.adj i hi (by omega)
   ·rw [hat,hat,if_neg (by omega),if_neg (by omega),if_neg (by omega),if_pos rfl]
    have:=h.adj i (by omega) (by omega)
    rw [hij] at this
    omega
  ·have e:insAt l (j+1)=l:=by simp only [insAt,ha,hb,if_neg hlt]
   rw [e]
   intro i hi
   by_cases hij:i=j
   ·subst hij; omega
   ·exact h.adj i hi (by omega)
theorem isortN_sorted (l:List Int):∀k,k<l.length→∀i,i+1<k+1→at' (isortN l k) i≤at' (isortN l k) (i+1)
 | 0,_,i,hi=>by omega
 | k+1,hk,i,hi=>by
  have ih:=isortN_sorted l k (by omega)
  refine insAt_sorted (k+1) (isortN l k) (k+2) (by omega) (by rw [isortN_len]; omega) ⟨fun i hi hne=>ih i (by omega),fun i hij h=>by omega⟩ i hi
theorem pair_of:∀{l:List Int},(∀i,i+1<l.length→at' l i≤at' l (i+1))→l.Nodup→l.Pairwise (· < ·)
 | [],_,_=>.nil
 | [x],_,_=>by simp
 | x::y::l,h,hn=>by
  have hn2:=(List.nodup_cons.1 hn)
  have ih:=pair_of (l:=y::l) (fun i hi=>h (i+1) (by simpa using hi)) hn2.2
  have hxy:x<y:=by
   have h0:x≤y:=h 0 (by simp)
   have hne:x ≠ y:=fun e=>hn2.1 (by rw [e]; simp)
   omega
  refine List.pairwise_cons.2 ⟨fun z hz=>?_,ih⟩
  rcases List.mem_cons.1 hz with rfl | hz
  ·exact hxy
  ·have:=(List.pairwise_cons.1 ih).1 z hz
   omega
theorem sorted_ext:∀{a b:List Int},a.Pairwise (· < ·)→b.Pairwise (· < ·)→(∀x,x∈a ↔ x∈b)→a=b
 | [],[],_,_,_=>rfl
 | [],y::b,_,_,h=>by have:=(h y).2 (by simp); simp at this
 | x::a,[],_,_,h=>by have:=(h x).1 (by simp); simp at this
 | x::a,y::b,ha,hb,h=>by
  rw [List.pairwise_cons] at ha hb
  have hxy:x=y:=by
   have h1:=(h x).1 (by simp)
   have h2:=(h y).2 (by simp)
   rcases List.mem_cons.1 h1 with h1 | h1
   ·exact h1
   ·rcases List.mem_cons.1 h2 with h2 | h2
    ·exact h2.symm
    ·have:=hb.1 x h1
     have:=ha.1 y h2
     omega
  subst hxy
  rw [sorted_ext ha.2 hb.2 fun z=>?_]
  constructor
  ·intro hz
   rcases List.mem_cons.1 ((h z).1 (List.mem_cons_of_mem _ hz)) with e | h1
   ·have:=ha.1 z hz; omega
   ·exact h1
  ·intro hz
   rcases List.mem_cons.1 ((h z).2 (List.mem_cons_of_mem _ hz)) with e | h1
   ·have:=hb.1 z hz; omega
   ·exact h1
def inOrder (l:List Int) (N:Nat):List Int:=((List.range N).map (fun i:Nat=>(i:Int))).filter fun s=>decide (s∈l)
theorem isort_eq {l:List Int} {N:Nat} (hn:l.Nodup) (hr:∀s,s∈l→0≤s∧s<N):isortN l (l.length - 1)=inOrder l N:=by
 have hp:=isortN_perm l (l.length - 1)
 refine sorted_ext (pair_of (fun i hi=>?_) (hp.nodup_iff.2 hn)) ?_ fun x=>?_
 ·rw [isortN_len] at hi
  exact isortN_sorted l (l.length - 1) (by omega) i (by omega)
 ·unfold inOrder
  refine List.Pairwise.filter _ ?_
  rw [List.pairwise_map]
  exact (List.pairwise_lt_range).imp fun h=>by omega
 ·rw [hp.mem_iff]
  unfold inOrder
  rw [List.mem_filter,List.mem_map]
  constructor
  ·intro hx
   have:=hr x hx
   exact ⟨⟨x.toNat,List.mem_range.2 (by omega),by omega⟩,decide_eq_true hx⟩
  ·rintro ⟨-,h⟩
   exact of_decide_eq_true h
end Go.Proofs.Ytfcfbfkjdenpdaa
