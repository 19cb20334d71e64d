import Derived.Test.YtpjpdomkcabfcaaGreatDoorDM22
import Derived.Test.YtpjpdomkcabfcaaGreatDoorDM20
set_option linter.unusedVariables false
set_option linter.unusedSimpArgs false
set_option linter.unusedSectionVars false
namespace Go.Proofs.YtpjpdomkcabfcaaGreatDoor
open Go.TM
variable [KObj]
def rdoE (its:List Item) (L:OM) (o:Op):Int :=
 if o.kind=0 then putE its L (opK o) (rmakeX its o.item o.owner) else doE its L o
def rdoM (its:List Item) (L:OM) (o:Op):OM :=
 if o.kind=0 then rputM its L (opK o) (rmakeX its o.item o.owner)
 else if o.kind=1 then givM its L (opK o) o.owner o.a
 else if o.kind=2 then useM its L (opK o) o.owner (o.a+1) o.b
 else if o.kind=3 then repM its L (opK o) o.owner o.b
 else if o.kind=4 then odel L (opK o)
 else rputM its L (opK o) (opX o)
set_option maxRecDepth 100000
set_option maxHeartbeats 4000000 in
theorem rdo_spec (its:List Item) (L:OM) (hl:L.length≤100000) (o:Op) (hm:OkS its L) (ha:0≤o.a∧o.a≤1073741825):CSpec Tryz.prog 23 [.ptr 0 0,ofD (eOp o)] 2 (rfK its L 0) 0 [.dv (I (rdoE its L o))] (rfK its (rdoM its L o) 1):=by
 refine cspecM_of tab_ok mixed (calls_snd _) (range_snd _) Tryz.func23 rfl rfl (by kernel_rfl) ?_
 refine And.intro ?_ ?_
 ·intro h
  have h0:o.kind=0:=by have h':(o.kind == 0)=true:=h; simpa using h'
  clear h
  have e1:rdoE its L o=putE its L (opK o) (rmakeX its o.item o.owner):=by simp [rdoE,doE,h0]
  have e2:rdoM its L o=rputM its L (opK o) (rmakeX its o.item o.owner):=by simp [rdoM,h0]
  rw [e1,e2]
  refine .inl (.inr ⟨[0,1],[.ptr 0 0,.dv (I (opK o).1),.dv (I (opK o).2),.dv (I o.item),.dv (I o.owner)],rfK its L 0,30,_,_,rmake_spec its L hl (opK o) o.item o.owner,by kernel_rfl,by kernel_rfl,⟨rfl,rf,rf,rf,rf,tv⟩,⟨⟨rf,rf,rf,rf,rfl,tv⟩,⟨rfl,rfl⟩,tv⟩,?_⟩)
  exact ⟨1,1,1,_,rfK its (rputM its L (opK o) (rmakeX its o.item o.owner)) 1,[.dv (I (putE its L (opK o) (rmakeX its o.item o.owner)))],by kernel_rfl,rfl,⟨rf,tv⟩,⟨⟨rf,rf,rf,rf,rfl,tv⟩,⟨rfl,rfl⟩,tv⟩,_,_,⟨rfl,rfl⟩,by kernel_rfl,⟨rf,tv⟩,⟨rf,rf,rf,rf,rfl,tv⟩,⟨rfl,rfl⟩,tv⟩
 intro h
 have h0:¬ o.kind=0:=by have h':(o.kind == 0)=false:=h; simpa using h'
 clear h
 refine And.intro ?_ ?_
 ·intro h
  have h1:o.kind=1:=by have h':(o.kind == 1)=true:=h; simpa using h'
  clear h
  have e1:rdoE its L o=givE its L (opK o) o.owner o.a:=by simp [rdoE,doE,h1]
  have e2:rdoM its L o=givM its L (opK o) o.owner o.a:=by simp [rdoM,h1]
  rw [e1,e2]
  refine .inl (.inr ⟨[0,1],[.ptr 0 0,.dv (I (opK o).1),.dv (I (opK o).2),.dv (I o.owner),.dv (I o.a)],rfK its L 0,0,_,_,rgiv_spec its L (by omega) (opK o) o.owner o.a hm.okM,by kernel_rfl,by kernel_rfl,⟨rfl,rf,rf,rf,rf,tv⟩,⟨⟨rf,rf,rf,rf,rfl,tv⟩,⟨rfl,rfl⟩,tv⟩,?_⟩)
  exact ⟨1,1,0,_,rfK its (givM its L (opK o) o.owner o.a) 0,[.dv (I (givE its L (opK o) o.owner o.a))],by kernel_rfl,rfl,⟨rf,tv⟩,⟨⟨rf,rf,rf,rf,rfl,tv⟩,⟨rfl,rfl⟩,tv⟩,_,_,⟨rfl,rfl⟩,by kernel_rfl,⟨rf,tv⟩,⟨rf,rf,rf,rf,rfl,tv⟩,⟨rfl,rfl⟩,tv⟩
 intro h
 have h1:¬ o.kind=1:=by have h':(o.kind == 1)=false:=h; simpa using h'
 clear h
 refine And.intro ?_ ?_
 ·intro h
  have h2:o.kind=2:=by have h':(o.kind == 2)=true:=h; simpa using h'
  clear h
  have e1:rdoE its L o=useE its L (opK o) o.owner (o.a+1) o.b:=by simp [rdoE,doE,h2]
  have e2:rdoM its L o=useM its L (opK o) o.owner (o.a+1) o.b:=by simp [rdoM,h2]
  rw [e1,e2]
  refine ⟨fun _=>⟨by omega,by omega⟩,?_⟩
  refine .inl (.inr ⟨[0,1],[.ptr 0 0,.dv (I (opK o).1),.dv (I (opK o).2),.dv (I o.owner),.dv (I (o.a+1)),.dv (I o.b)],rfK its L 0,0,_,_,ruse_spec its L (by omega) (opK o) o.owner (o.a+1) o.b hm,by kernel_rfl,by kernel_rfl,⟨rfl,rf,rf,rf,rf,rf,tv⟩,⟨⟨rf,rf,rf,rf,rfl,tv⟩,⟨rfl,rfl⟩,tv⟩,?_⟩)
  exact ⟨1,1,0,_,rfK its (useM its L (opK o) o.owner (o.a+1) o.b) 0,[.dv (I (useE its L (opK o) o.owner (o.a+1) o.b))],by kernel_rfl,rfl,⟨rf,tv⟩,⟨⟨rf,rf,rf,rf,rfl,tv⟩,⟨rfl,rfl⟩,tv⟩,_,_,⟨rfl,rfl⟩,by kernel_rfl,⟨rf,tv⟩,⟨rf,rf,rf,rf,rfl,tv⟩,⟨rfl,rfl⟩,tv⟩
 intro h
 have h2:¬ o.kind=2:=by have h':(o.kind == 2)=false:=h; simpa using h'
 clear h
 refine And.intro ?_ ?_
 ·intro h
  have h3:o.kind=3:=by have h':(o.kind == 3)=true:=h; simpa using h'
  clear h
  have e1:rdoE its L o=repE its L (opK o) o.owner o.b:=by simp [rdoE,doE,h3]
  have e2:rdoM its L o=repM its L (opK o) o.owner o.b:=by simp [rdoM,h3]
  rw [e1,e2]
  refine .inl (.inr ⟨[0,1],[.ptr 0 0,.dv (I (opK o).1),.dv (I (opK o).2),.dv (I o.owner),.dv (I o.b)],rfK its L 0,0,_,_,rrep_spec its L (by omega) (opK o) o.owner o.b hm,by kernel_rfl,by kernel_rfl,⟨rfl,rf,rf,rf,rf,tv⟩,⟨⟨rf,rf,rf,rf,rfl,tv⟩,⟨rfl,rfl⟩,tv⟩,?_⟩)
  exact ⟨1,1,0,_,rfK its (repM its L (opK o) o.owner o.b) 0,[.dv (I (repE its L (opK o) o.owner o.b))],by kernel_rfl,rfl,⟨rf,tv⟩,⟨⟨rf,rf,rf,rf,rfl,tv⟩,⟨rfl,rfl⟩,tv⟩,_,_,⟨rfl,rfl⟩,by kernel_rfl,⟨rf,tv⟩,⟨rf,rf,rf,rf,rfl,tv⟩,⟨rfl,rfl⟩,tv⟩
 intro h
 have h3:¬ o.kind=3:=by have h':(o.kind == 3)=false:=h; simpa using h'
 clear h
 refine And.intro ?_ ?_
 ·intro h
  have h4:o.kind=4:=by have h':(o.kind == 4)=true:=h; simpa using h'
  clear h
  have e1:rdoE its L o=(if (oget L (opK o)).isSome then 0 else 7):=by simp [rdoE,doE,h4]
  have e2:rdoM its L o=odel L (opK o):=by simp [rdoM,h4]
  rw [e1,e2]
  refine .inl (.inr ⟨[0,1],[.ptr 0 0,.dv (I (opK o).1),.dv (I (opK o).2)],rfK its L 0,20,_,_,rremove_spec its L hl (opK o),by kernel_rfl,by kernel_rfl,⟨rfl,rf,rf,tv⟩,⟨⟨rf,rf,rf,rf,rfl,tv⟩,⟨rfl,rfl⟩,tv⟩,?_⟩)
  exact ⟨1,1,1,_,rfK its (odel L (opK o)) 1,[.dv (I (if (oget L (opK o)).isSome then 0 else 7))],by kernel_rfl,rfl,⟨rf,tv⟩,⟨⟨rf,rf,rf,rf,rfl,tv⟩,⟨rfl,rfl⟩,tv⟩,_,_,⟨rfl,rfl⟩,by kernel_rfl,⟨rf,tv⟩,⟨rf,rf,rf,rf,rfl,tv⟩,⟨rfl,rfl⟩,tv⟩
 intro h
 have h4:¬ o.kind=4:=by have h':(o.kind == 4)=false:=h; simpa using h'
 clear h
 have e1:rdoE its L o=putE its L (opK o) (opX o):=by simp [rdoE,doE,h0,h1,h2,h3,h4]
 have e2:rdoM its L o=rputM its L (opK o) (opX o):=by simp [rdoM,h0,h1,h2,h3,h4]
 rw [e1,e2]
 refine .inl (.inr ⟨[0,1],[.ptr 0 0,ofD (eRo (opK o,opX o))],rfK its L 0,20,_,_,rput_spec its L hl (opK o) (opX o),by kernel_rfl,by kernel_rfl,⟨rfl,⟨rf,rf,rf,rf,rf,rf,tv⟩,tv⟩,⟨⟨rf,rf,rf,rf,rfl,tv⟩,⟨rfl,rfl⟩,tv⟩,?_⟩)
 exact ⟨1,1,1,_,rfK its (rputM its L (opK o) (opX o)) 1,[.dv (I (putE its L (opK o) (opX o)))],by kernel_rfl,rfl,⟨rf,tv⟩,⟨⟨rf,rf,rf,rf,rfl,tv⟩,⟨rfl,rfl⟩,tv⟩,_,_,⟨rfl,rfl⟩,by kernel_rfl,⟨rf,tv⟩,⟨rf,rf,rf,rf,rfl,tv⟩,⟨rfl,rfl⟩,tv⟩
end Go.Proofs.YtpjpdomkcabfcaaGreatDoor
namespace Go.Proofs.YtpjpdomkcabfcaaGreatDoor
open Go.TM
variable [KObj]
def encR (L:OM):List Int:=ibytes L.length++L.flatMap fun p=>obB p.1 p.2
def encS (L:OM) (i:Nat):List Int:=ibytes L.length++(L.take i).flatMap fun p=>obB p.1 p.2
theorem encS_len (L:OM) (i:Nat) (hl:L.length≤100):(encS L i).length≤7000:=by
 have h1:=ibytes_len L.length
 have h2:∀l:OM,(l.flatMap fun p=>obB p.1 p.2).length≤66 * l.length:=by
  intro l
  induction l with
  | nil=>simp
  | cons p l ih =>
   have h:(obB p.1 p.2).length≤11 * 6:=flat_len (nums p.1 p.2)
   simp only [List.flatMap_cons,List.length_append,List.length_cons]
   omega
 have h3:=h2 (L.take i)
 have h4:(L.take i).length≤L.length:=by rw [List.length_take]; exact Nat.min_le_right _ _
 unfold encS
 simp only [List.length_append]
 omega
def reInv1 (its:List Item) (L:OM) (i:Nat):AState:=⟨3,[(0,.ptr 0 0),(3,.own 2 0 0 []),(4,.dv (I i))],rfK its L 0++[(2,.tree 0 0 (.osl 1 ((encS L i).map Y)))]⟩
def reInv2 (its:List Item) (L:OM) (i:Nat) (p:Ky × Ob) (j:Nat):AState:=⟨3,[(0,.ptr 0 0),(3,.own 2 0 0 []),(4,.dv (I i)),(7,.dv (Ints (nums p.1 p.2))),(8,.dv (I j))],rfK its L 0++[(2,.tree 0 0 (.osl 1 ((encS L i++((nums p.1 p.2).take j).flatMap ibytes).map Y)))]⟩
set_option maxRecDepth 100000
set_option maxHeartbeats 4000000 in
theorem rencode_spec (its:List Item) (L:OM) (hl:L.length≤100) (hi:∀p,p∈L→∀n,n∈nums p.1 p.2→InI n):CSpec Tryz.prog 44 [.ptr 0 0] 2 (rfK its L 0) 1 [.own 2 0 0 []] (rfK its L 0++[(2,.tree 0 0 (.osl 1 ((encR L).map Y)))]):=by
 refine cspec_of tab_ok mixed (calls_snd _) (range_snd _) Tryz.func44 rfl rfl (by kernel_rfl) ?_
 refine .inr ⟨[],[.dv (I (L.length:Nat))],[],1,_,_,rint_spec _ ⟨by omega,by omega⟩,by kernel_rfl,by kernel_rfl,⟨le_int (by simp),tv⟩,tv,?_⟩
 refine ⟨Nat,reInv1 its L,fun i=>i≤L.length,fun i=>L.length - i,0,fun _=>rfl,⟨⟨rfl,rfl,rf,tv⟩,⟨⟨rf,rf,rf,rf,rfl,tv⟩,⟨rfl,rfl⟩,⟨rfl,by simp [encS]⟩,tv⟩,rfl,rfl⟩,Nat.zero_le _,?_⟩
 intro i hi0
 refine ⟨fun h=>?_,fun h=>?_⟩
 ·have hlt:i<L.length:=by simpa using h
  clear h
  have hel:(L.map eRo)[(i:Int).toNat]?=some (eRo L[i]):=by simp [hlt]
  have hmem:L[i]∈L:=List.getElem_mem hlt
  refine ⟨fun _=>⟨by omega,by simp; omega⟩,eRo L[i],fun _=>hel,?_⟩
  have htk:(L.take (i+1))=L.take i++[L[i]]:=List.take_succ_eq_append_getElem hlt
  generalize L[i]=p at hel hmem htk
  have hp0:∀n,n∈nums p.1 p.2→InI n:=hi p hmem
  obtain ⟨⟨k1,k2⟩,⟨xi,xo,xw,xb⟩⟩:=p
  cases xb with
  | false =>
   refine ⟨fun h=>Bool.noConfusion h,fun _=>?_⟩
   refine .inl ⟨(nums (k1,k2) ⟨xi,xo,xw,false⟩).map I,rfl,⟨rf,rf,rf,rf,rf,rf,tv⟩,(fun x hx=>by obtain ⟨n,_,rfl⟩:=List.mem_map.1 hx; rfl),?_⟩
   refine ⟨Nat,reInv2 its L i ((k1,k2),⟨xi,xo,xw,false⟩),fun j=>j≤6,fun j=>6 - j,0,fun _=>rfl,⟨⟨rfl,rfl,rf,rf,rf,tv⟩,⟨⟨rf,rf,rf,rf,rfl,tv⟩,⟨rfl,rfl⟩,⟨rfl,by simp⟩,tv⟩,rfl,rfl⟩,by omega,?_⟩
   intro j hj
   refine ⟨fun h=>?_,fun h=>?_⟩
   ·have h2:(j:Int)<6:=of_decide_eq_true h
    have hj2:j<6:=by omega
    have hnt:=numsT (k1,k2) ⟨xi,xo,xw,false⟩ hj2
    have hlt6:j<(nums (k1,k2) ⟨xi,xo,xw,false⟩).length:=hj2
    have hin:InI ((nums (k1,k2) ⟨xi,xo,xw,false⟩).getD j 0):=by
     rw [List.getD_eq_getElem?_getD,List.getElem?_eq_getElem hlt6]
     exact hp0 _ (List.getElem_mem hlt6)
    have h3:=ibytes_len ((nums (k1,k2) ⟨xi,xo,xw,false⟩).getD j 0)
    have h4:=flat_len ((nums (k1,k2) ⟨xi,xo,xw,false⟩).take j)
    have h5:((nums (k1,k2) ⟨xi,xo,xw,false⟩).take j).length≤6:=by rw [List.length_take]; exact Nat.min_le_right _ _
    have h6:=encS_len L i hl
    refine ⟨I ((nums (k1,k2) ⟨xi,xo,xw,false⟩).getD j 0),fun _=>⟨by omega,by simp only [List.getElem?_map,Int.toNat_natCast,List.getElem?_eq_getElem hlt6,List.getD_eq_getElem?_getD]; rfl⟩,?_⟩
    refine .inr ⟨[],[.dv (I ((nums (k1,k2) ⟨xi,xo,xw,false⟩).getD j 0))],[],1,_,_,rint_spec _ hin,by kernel_rfl,by kernel_rfl,⟨rf,tv⟩,tv,?_⟩
    refine .inr (.inl ⟨closed_Y _,(ibytes ((nums (k1,k2) ⟨xi,xo,xw,false⟩).getD j 0)).map Y,ELes.refl _,(by rw [byWB]; simp only [List.length_map,List.length_append]; omega),(by simp only [List.length_map,List.length_append]; omega),?_⟩)
    refine ⟨fun _=>⟨by omega,by omega⟩,j+1,⟨⟨rfl,rfl,rf,rf,le_int (by simp),tv⟩,⟨⟨rf,rf,rf,rf,rfl,tv⟩,⟨rfl,rfl⟩,⟨rfl,?_⟩,tv⟩,rfl,rfl⟩,by show j+1≤6; omega,by show 6 - (j+1)<6 - j; omega⟩
    show DV.osl 1 _=DV.osl 1 _
    congr 1
    rw [←List.map_append,List.append_assoc,hnt]
   ·have h2:¬ (j:Int)<6:=of_decide_eq_false h
    have hj6:j=6:=by omega
    subst hj6
    refine ⟨fun _=>⟨by omega,by omega⟩,i+1,⟨⟨rfl,rfl,le_int (by simp),tv⟩,⟨⟨rf,rf,rf,rf,rfl,tv⟩,⟨rfl,rfl⟩,⟨rfl,?_⟩,tv⟩,rfl,rfl⟩,by show i+1≤L.length; omega,by show L.length - (i+1)<L.length - i; omega⟩
    show DV.osl 1 _=DV.osl 1 _
    congr 2
    unfold encS
    rw [htk,List.append_assoc,List.flatMap_append]
    congr 1
    simp only [List.flatMap_cons,List.flatMap_nil,List.append_nil]
    rfl
  | true =>
   refine ⟨fun _=>?_,fun h=>Bool.noConfusion h⟩
   refine .inl ⟨(nums (k1,k2) ⟨xi,xo,xw,true⟩).map I,rfl,⟨rf,rf,rf,rf,rf,rf,tv⟩,(fun x hx=>by obtain ⟨n,_,rfl⟩:=List.mem_map.1 hx; rfl),?_⟩
   refine ⟨Nat,reInv2 its L i ((k1,k2),⟨xi,xo,xw,true⟩),fun j=>j≤6,fun j=>6 - j,0,fun _=>rfl,⟨⟨rfl,rfl,rf,rf,rf,tv⟩,⟨⟨rf,rf,rf,rf,rfl,tv⟩,⟨rfl,rfl⟩,⟨rfl,by simp⟩,tv⟩,rfl,rfl⟩,by omega,?_⟩
   intro j hj
   refine ⟨fun h=>?_,fun h=>?_⟩
   ·have h2:(j:Int)<6:=of_decide_eq_true h
    have hj2:j<6:=by omega
    have hnt:=numsT (k1,k2) ⟨xi,xo,xw,true⟩ hj2
    have hlt6:j<(nums (k1,k2) ⟨xi,xo,xw,true⟩).length:=hj2
    have hin:InI ((nums (k1,k2) ⟨xi,xo,xw,true⟩).getD j 0):=by
     rw [List.getD_eq_getElem?_getD,List.getElem?_eq_getElem hlt6]
     exact hp0 _ (List.getElem_mem hlt6)
    have h3:=ibytes_len ((nums (k1,k2) ⟨xi,xo,xw,true⟩).getD j 0)
    have h4:=flat_len ((nums (k1,k2) ⟨xi,xo,xw,true⟩).take j)
    have h5:((nums (k1,k2) ⟨xi,xo,xw,true⟩).take j).length≤6:=by rw [List.length_take]; exact Nat.min_le_right _ _
    have h6:=encS_len L i hl
    refine ⟨I ((nums (k1,k2) ⟨xi,xo,xw,true⟩).getD j 0),fun _=>⟨by omega,by simp only [List.getElem?_map,Int.toNat_natCast,List.getElem?_eq_getElem hlt6,List.getD_eq_getElem?_getD]; rfl⟩,?_⟩
    refine .inr ⟨[],[.dv (I ((nums (k1,k2) ⟨xi,xo,xw,true⟩).getD j 0))],[],1,_,_,rint_spec _ hin,by kernel_rfl,by kernel_rfl,⟨rf,tv⟩,tv,?_⟩
    refine .inr (.inl ⟨closed_Y _,(ibytes ((nums (k1,k2) ⟨xi,xo,xw,true⟩).getD j 0)).map Y,ELes.refl _,(by rw [byWB]; simp only [List.length_map,List.length_append]; omega),(by simp only [List.length_map,List.length_append]; omega),?_⟩)
    refine ⟨fun _=>⟨by omega,by omega⟩,j+1,⟨⟨rfl,rfl,rf,rf,le_int (by simp),tv⟩,⟨⟨rf,rf,rf,rf,rfl,tv⟩,⟨rfl,rfl⟩,⟨rfl,?_⟩,tv⟩,rfl,rfl⟩,by show j+1≤6; omega,by show 6 - (j+1)<6 - j; omega⟩
    show DV.osl 1 _=DV.osl 1 _
    congr 1
    rw [←List.map_append,List.append_assoc,hnt]
   ·have h2:¬ (j:Int)<6:=of_decide_eq_false h
    have hj6:j=6:=by omega
    subst hj6
    refine ⟨fun _=>⟨by omega,by omega⟩,i+1,⟨⟨rfl,rfl,le_int (by simp),tv⟩,⟨⟨rf,rf,rf,rf,rfl,tv⟩,⟨rfl,rfl⟩,⟨rfl,?_⟩,tv⟩,rfl,rfl⟩,by show i+1≤L.length; omega,by show L.length - (i+1)<L.length - i; omega⟩
    show DV.osl 1 _=DV.osl 1 _
    congr 2
    unfold encS
    rw [htk,List.append_assoc,List.flatMap_append]
    congr 1
    simp only [List.flatMap_cons,List.flatMap_nil,List.append_nil]
    rfl
 ·have he0:¬ i<L.length:=by simpa using h
  have he:i=L.length:=by omega
  subst he
  have hb:encS L L.length=encR L:=by unfold encS encR; rw [List.take_length]
  rw [←hb]
  exact ⟨_,_,⟨rfl,rfl⟩,by kernel_rfl,⟨rfl,tv⟩,⟨rf,rf,rf,rf,rfl,tv⟩,⟨rfl,rfl⟩,⟨rfl,rfl⟩,tv⟩
end Go.Proofs.YtpjpdomkcabfcaaGreatDoor
namespace Go.Proofs.YtpjpdomkcabfcaaGreatDoor
open Go.TM
variable [KObj]
structure Same (m L:OM):Prop where
 nd:NdK m
 keys:L.map Prod.fst=keysOf m
 get:∀k,oget m k=oget L k
theorem keys_nd {m:OM} (h:NdK m):(keysOf m).Nodup:=(isortN_perm _ _).nodup_iff.2 h
theorem keys_pair {m:OM} (h:NdK m):(keysOf m).Pairwise klt:=isort_pair h
theorem Same.ndL {m L:OM} (h:Same m L):NdK L:=by unfold NdK; rw [h.keys]; exact keys_nd h.nd
theorem Same.len {m L:OM} (h:Same m L):L.length=m.length:=by
 have:=congrArg List.length h.keys
 rw [List.length_map] at this
 rw [this]; unfold keysOf; rw [isortN_len,List.length_map]
theorem Same.at {m L:OM} (h:Same m L) {p:Ky × Ob} (hp:p∈L):oget m p.1=some p.2:=by
 rw [h.get]; exact mem_oget h.ndL hp
theorem Same.enc {m L:OM} (h:Same m L):encB m=encR L:=by
 unfold encB encR
 rw [←h.keys,h.len,List.flatMap_map]
 congr 1
 have:∀l:OM,(∀p,p∈l→p∈L)→(l.flatMap fun p=>obB p.1 ((oget m p.1).getD Ob.zero))=l.flatMap fun p=>obB p.1 p.2:=by
  intro l hl
  induction l with
  | nil=>rfl
  | cons p l ih =>
   simp only [List.flatMap_cons]
   rw [ih (fun q hq=>hl q (by simp [hq])),h.at (hl p (by simp))]
   rfl
 exact this L fun p hp=>hp
theorem same_nil:Same [] []:=⟨by simp [NdK],rfl,fun _=>rfl⟩
def ownL (L:OM) (ow:Int):OM:=L.filter fun p=>p.2.owner == ow
theorem Same.of {m L:OM} (h:Same m L) (ow:Int):ofL m ow=(ownL L ow).map Prod.fst:=by
 refine sorted_ext (isort_pair (ownK_nd h.nd ow)) ?_ fun k=>?_
 ·have h1:(L.map Prod.fst).Pairwise klt:=by rw [h.keys]; exact keys_pair h.nd
  exact h1.sublist (List.filter_sublist.map _)
 ·rw [mem_ofL h.nd]
  simp only [ownL,List.mem_map,List.mem_filter]
  constructor
  ·rintro ⟨x,h1,h2⟩
   rw [h.get] at h1
   exact ⟨(k,x),⟨oget_mem h1,by simpa using h2⟩,rfl⟩
  ·rintro ⟨⟨k',x⟩,⟨h1,h2⟩,rfl⟩
   exact ⟨x,h.at h1,by simpa using h2⟩
theorem kltB_iff {a b:Ky}:kltB a b=true ↔ klt a b:=by
 unfold kltB klt
 by_cases h1:a.1<b.1
 ·simp [h1]
 ·by_cases h2:a.1=b.1
  ·simp [h1,h2]
  ·simp [h1,h2]
theorem insO_get {L:OM} {k q:Ky} {x:Ob} (hk:oget L k=none):oget (insO L k x) q=if k=q then some x else oget L q:=by
 have app:∀(a b:OM),oget (a++b) q=match oget a q with | some y=>some y | none=>oget b q:=by
  intro a b
  induction a with
  | nil=>rfl
  | cons p r ih =>
   simp only [List.cons_append,oget]
   split
   ·rfl
   ·exact ih
 unfold insO
 have e:oget L q=match oget (L.take (posO L k)) q with | some y=>some y | none=>oget (L.drop (posO L k)) q:=by
  rw [←app,List.take_append_drop]
 rw [app]
 by_cases hq:k=q
 ·subst hq
  rw [if_pos rfl]
  rw [hk] at e
  cases h1:oget (L.take (posO L k)) k with
  | some y=>rw [h1] at e; cases e
  | none=>simp [oget]
 ·rw [if_neg hq,e]
  cases h1:oget (L.take (posO L k)) q with
  | some y=>rfl
  | none=>simp only [oget,if_neg hq]
theorem pos_split {L:OM} {k:Ky}:(∀p,p∈L.take (posO L k)→kltB p.1 k=true):=by
 induction L with
 | nil=>simp
 | cons p r ih =>
  simp only [posO]
  split
  ·rename_i h
   intro q hq
   simp only [List.take_succ_cons,List.mem_cons] at hq
   rcases hq with rfl | hq
   ·exact h
   ·exact ih q hq
  ·simp
theorem pos_drop {L:OM} {k:Ky} (hs:(L.map Prod.fst).Pairwise klt) (hk:oget L k=none):∀p,p∈L.drop (posO L k)→klt k p.1:=by
 induction L with
 | nil=>simp
 | cons p r ih =>
  rw [List.map_cons,List.pairwise_cons] at hs
  have hk1:¬ p.1=k:=fun e=>by simp [oget,e] at hk
  have hk2:oget r k=none:=by simpa [oget,hk1] using hk
  simp only [posO]
  split
  ·exact ih hs.2 hk2
  ·rename_i h
   have h0:¬ klt p.1 k:=fun hh=>h (kltB_iff.2 hh)
   have h1:klt k p.1:=klt_of (by unfold kle klt at *; omega) (fun e=>hk1 e.symm)
   intro q hq
   rw [List.drop_zero] at hq
   rcases List.mem_cons.1 hq with rfl | hq
   ·exact h1
   ·exact klt_tr h1 (hs.1 q.1 (List.mem_map.2 ⟨q,hq,rfl⟩))
theorem keys_same {m L:OM} (hn:NdK m) (hs:(L.map Prod.fst).Pairwise klt) (hg:∀k,oget m k=oget L k):L.map Prod.fst=keysOf m:=by
 refine sorted_ext hs (keys_pair hn) fun k=>?_
 unfold keysOf
 rw [(isortN_perm _ _).mem_iff]
 constructor
 ·intro h
  obtain ⟨p,h1,rfl⟩:=List.mem_map.1 h
  have:∃x,oget L p.1=some x:=by
   cases hq:oget L p.1 with
   | some x=>exact ⟨x,rfl⟩
   | none =>
    have hnd:NdK L:=by
     unfold NdK List.Nodup
     exact hs.imp fun {a b} h=>fun e=>by subst e; exact klt_irr h
    rw [mem_oget hnd h1] at hq; cases hq
  obtain ⟨x,hx⟩:=this
  exact mem_keys ((hg _).trans hx)
 ·intro h
  obtain ⟨p,h1,rfl⟩:=List.mem_map.1 h
  exact mem_keys ((hg _).symm.trans (mem_oget hn h1))
theorem Same.srt {m L:OM} (h:Same m L):(L.map Prod.fst).Pairwise klt:=by rw [h.keys]; exact keys_pair h.nd
theorem Same.ins {m L:OM} (h:Same m L) {k:Ky} {x:Ob} (hk:oget m k=none):Same (oput m k x) (insO L k x):=by
 have hk2:oget L k=none:=(h.get k).symm.trans hk
 have hg:∀q,oget (oput m k x) q=oget (insO L k x) q:=fun q=>by rw [oget_put,insO_get hk2,h.get]
 have hn:=oput_nd (k:=k) (x:=x) h.nd
 refine ⟨hn,keys_same hn ?_ hg,hg⟩
 unfold insO
 rw [List.map_append,List.map_cons]
 have hs:=h.srt
 rw [show L.map Prod.fst=(L.take (posO L k)).map Prod.fst++(L.drop (posO L k)).map Prod.fst by rw [←List.map_append,List.take_append_drop]] at hs
 rw [List.pairwise_append] at hs ⊢
 have d1:=pos_drop h.srt hk2
 refine ⟨hs.1,List.pairwise_cons.2 ⟨fun q hq=>?_,hs.2.1⟩,fun a ha b hb=>?_⟩
 ·obtain ⟨p,hp,rfl⟩:=List.mem_map.1 hq
  exact d1 p hp
 ·rcases List.mem_cons.1 hb with rfl | hb
  ·obtain ⟨p,hp,rfl⟩:=List.mem_map.1 ha
   exact kltB_iff.1 (pos_split p hp)
  ·exact hs.2.2 a ha b hb
theorem put_keys {L:OM} {k:Ky} {x:Ob}:∀{y:Ob},oget L k=some y→(oput L k x).map Prod.fst=L.map Prod.fst:=by
 induction L with
 | nil=>intro y h; simp [oget] at h
 | cons p r ih =>
  intro y h
  simp only [oput]
  by_cases e:p.1=k
  ·rw [if_pos e]; simp [e]
  ·rw [if_neg e]
   simp only [oget,if_neg e] at h
   simp only [List.map_cons]
   rw [ih h]
theorem Same.upd {m L:OM} (h:Same m L) {k:Ky} {x y:Ob} (hk:oget m k=some y):Same (oput m k x) (oput L k x):=by
 have hg:∀q,oget (oput m k x) q=oget (oput L k x) q:=fun q=>by rw [oget_put,oget_put,h.get]
 have hn:=oput_nd (k:=k) (x:=x) h.nd
 refine ⟨hn,keys_same hn ?_ hg,hg⟩
 rw [put_keys ((h.get k).symm.trans hk)]
 exact h.srt
theorem Same.del {m L:OM} (h:Same m L) (k:Ky):Same (odel m k) (odel L k):=by
 have hg:∀q,oget (odel m k) q=oget (odel L k) q:=fun q=>by rw [oget_del h.nd,oget_del h.ndL,h.get]
 have hn:=odel_nd (k:=k) h.nd
 exact ⟨hn,keys_same hn (h.srt.sublist (odel_sub.map _)) hg,hg⟩
end Go.Proofs.YtpjpdomkcabfcaaGreatDoor
namespace Go.Proofs.YtpjpdomkcabfcaaGreatDoor
open Go.TM
variable [KObj]
def KO (m:OM):Prop:=∀k x,oget m k=some x→InI k.1∧InI k.2∧InI x.owner
theorem numS {its:List Item} {m:OM} (ho:OkS its m) (hk:KO m) (hl:its.length≤1000):NumS m:=by
 intro k x hx n hn
 have h1:=ho k x hx
 have h2:=hk k x hx
 have a0:=h1.lo
 have a1:=h1.hi
 have a2:=h1.w0
 have a3:=h1.w1
 have a4:=h1.w2
 simp only [nums,List.mem_cons,List.not_mem_nil,or_false] at hn
 rcases hn with rfl | rfl | rfl | rfl | rfl | rfl
 ·exact h2.1
 ·exact h2.2.1
 ·exact ⟨by omega,by omega⟩
 ·exact h2.2.2
 ·exact ⟨by omega,by omega⟩
 ·unfold bN; split <;> exact ⟨by omega,by omega⟩
theorem Same.num {m L:OM} (h:Same m L) (hn:NumS m):∀p,p∈L→∀n,n∈nums p.1 p.2→InI n:=fun p hp n hh=>hn p.1 p.2 (h.at hp) n hh
theorem KO.put {m:OM} (h:KO m) {k:Ky} {x:Ob} (hk:InI k.1∧InI k.2∧InI x.owner):KO (oput m k x):=by
 intro q y hy
 rw [oget_put] at hy
 split at hy
 ·rename_i e; injection hy with hy; subst hy; subst e; exact hk
 ·exact h q y hy
theorem owner_in {n:Int} (h:¬ isOwner n=false):InI n:=by
 unfold isOwner at h
 simp at h
 exact ⟨by omega,by omega⟩
theorem putE_ow {its:List Item} {m:OM} {k:Ky} {x:Ob} (h:putE its m k x=0):InI x.owner:=by
 unfold putE at h
 split at h
 ·simp at h
 ·rename_i hb
  exact owner_in fun e=>hb (.inr (.inr (.inr e)))
theorem ko_putM {its:List Item} {m:OM} (h:KO m) {k:Ky} {x:Ob} (hk:InI k.1∧InI k.2):KO (putM its m k x):=by
 unfold putM
 split
 ·rename_i e; exact h.put ⟨hk.1,hk.2,putE_ow e⟩
 ·exact h
theorem ko_doM {its:List Item} {m:OM} (h:KO m) (hn:NdK m) {o:Op} (hk:InI (opK o).1∧InI (opK o).2):KO (doM its m o):=by
 unfold doM
 split
 ·exact ko_putM h hk
 ·split
  ·unfold givM
   split
   ·rename_i e
    have he:=e
    unfold givE at he
    split at he
    ·rename_i h1; exact absurd he h1
    ·split at he
     ·simp at he
     ·rename_i h2
      exact h.put ⟨hk.1,hk.2,owner_in fun e=>h2 (.inl e)⟩
   ·exact h
  ·split
   ·unfold useM
    split
    ·rename_i e
     obtain ⟨x,hx,he,_⟩:=useE_ok e
     rw [he]
     exact h.put ⟨hk.1,hk.2,(h _ _ hx).2.2⟩
    ·exact h
   ·split
    ·unfold repM
     split
     ·rename_i e
      obtain ⟨x,hx,he,_⟩:=repE_ok e
      rw [he]
      exact h.put ⟨hk.1,hk.2,(h _ _ hx).2.2⟩
     ·exact h
    ·split
     ·intro q y hy
      rw [oget_del hn] at hy
      split at hy
      ·cases hy
      ·exact h q y hy
     ·exact ko_putM h hk
theorem putE_same {its:List Item} {m L:OM} (h:Same m L) (k:Ky) (x:Ob):putE its L k x=putE its m k x:=by unfold putE; rw [h.get]
theorem ownR_same {its:List Item} {m L:OM} (h:Same m L) (k:Ky) (ow:Int):ownR its L k ow=ownR its m k ow:=by unfold ownR; rw [h.get]
theorem kI_of {its:List Item} {i:Int} {t:Item} (h:typeOf its i=some t):kI its i=t:=by
 obtain ⟨g1,g2,g3⟩:=typeOf_some h
 unfold kI; rw [if_neg (by omega),g3]
theorem make_same {its:List Item} {m:OM} (k:Ky) (i ow:Int):putE its m k (rmakeX its i ow)=putE its m k (makeX its i ow):=by
 unfold putE
 cases ht:typeOf its i with
 | none=>simp only [rmakeX,makeX,ht]
 | some t=>simp only [rmakeX,makeX,ht,kI_of ht,tyI,Option.getD_some]
theorem make_ob {its:List Item} {m:OM} {k:Ky} {i ow:Int} (h:putE its m k (makeX its i ow)=0):rmakeX its i ow=makeX its i ow:=by
 unfold putE at h
 split at h
 ·simp at h
 ·cases ht:typeOf its i with
  | none=>simp only [makeX,ht] at h; simp at h
  | some t=>simp only [rmakeX,makeX,ht,kI_of ht,tyI,Option.getD_some]
theorem Same.putM {its:List Item} {m L:OM} (h:Same m L) (ht:TyOk its) (k:Ky) (x:Ob):Same (putM its m k x) (rputM its L k x):=by
 unfold Go.Proofs.YtpjpdomkcabfcaaGreatDoor.putM rputM
 rw [putE_same h]
 split
 ·rename_i e; exact h.ins (putE_ok ht e).2.1
 ·exact h
theorem Same.make {its:List Item} {m L:OM} (h:Same m L) (ht:TyOk its) (k:Ky) (i ow:Int):Same (Go.Proofs.YtpjpdomkcabfcaaGreatDoor.putM its m k (makeX its i ow)) (rputM its L k (rmakeX its i ow)):=by
 unfold Go.Proofs.YtpjpdomkcabfcaaGreatDoor.putM rputM
 rw [putE_same h,make_same]
 split
 ·rename_i e
  rw [make_ob e]
  exact h.ins (putE_ok ht e).2.1
 ·exact h
theorem sim_doE {its:List Item} {m L:OM} (h:Same m L) (o:Op):rdoE its L o=doE its m o:=by
 unfold rdoE doE
 split
 ·rw [putE_same h,make_same]
 ·simp only [givE,useE,repE,ownR_same h,putE_same h,h.get]
theorem sim_doM {its:List Item} {m L:OM} (h:Same m L) (ht:TyOk its) (o:Op):Same (doM its m o) (rdoM its L o):=by
 unfold rdoM doM
 split
 ·exact h.make ht _ _ _
 ·split
  ·have e:givE its L (opK o) o.owner o.a=givE its m (opK o) o.owner o.a:=by simp only [givE,ownR_same h]
   unfold givM
   rw [e,ownR_same h]
   split
   ·rename_i e2
    obtain ⟨x,hx,_⟩:=givE_ok e2
    exact h.upd hx
   ·exact h
  ·split
   ·have e:useE its L (opK o) o.owner (o.a+1) o.b=useE its m (opK o) o.owner (o.a+1) o.b:=by simp only [useE,ownR_same h]
    unfold useM
    rw [e,ownR_same h]
    split
    ·rename_i e2
     obtain ⟨x,hx,_⟩:=useE_ok e2
     exact h.upd hx
    ·exact h
   ·split
    ·have e:repE its L (opK o) o.owner o.b=repE its m (opK o) o.owner o.b:=by simp only [repE,ownR_same h]
     unfold repM
     rw [e,ownR_same h]
     split
     ·rename_i e2
      obtain ⟨x,hx,_⟩:=repE_ok e2
      exact h.upd hx
     ·exact h
    ·split
     ·exact h.del _
     ·exact h.putM ht _ _
end Go.Proofs.YtpjpdomkcabfcaaGreatDoor
namespace Go.Proofs.YtpjpdomkcabfcaaGreatDoor
open Go.TM
variable [KObj]
abbrev RSt':=List Int × Int
def rdS (st:RSt'):Int × RSt':=(unzz (rdV st.1 st.2),(rdB st.1 st.2,rdE st.1 st.2))
def rdL:Nat→RSt'→List Int × RSt'
 | 0,st=>([],st)
 | n+1,st=>((rdS st).1::(rdL n (rdS st).2).1,(rdL n (rdS st).2).2)
def idOf (l:List Int):Ky:=(l.getD 0 0,l.getD 1 0)
def obOf (l:List Int):Ob:=⟨l.getD 2 0,l.getD 3 0,l.getD 4 0,l.getD 5 0 == 1⟩
def badL (its:List Item) (m:OM) (last:Ky) (l:List Int):Prop:=l.getD 5 0<0 ∨ 1<l.getD 5 0 ∨ 0≤cmpK last (idOf l) ∨ putE its m (idOf l) (obOf l) ≠ 0
instance (its:List Item) (m:OM) (last:Ky) (l:List Int):Decidable (badL its m last l):=by unfold badL; infer_instance
def dL (its:List Item):Nat→OM→Ky→RSt'→Option (OM × RSt')
 | 0,m,_,st=>some (m,st)
 | n+1,m,last,st=>if badL its m last (rdL 6 st).1 then none else dL its n (oput m (idOf (rdL 6 st).1) (obOf (rdL 6 st).1)) (idOf (rdL 6 st).1) (rdL 6 st).2
def decM (its:List Item) (bs:List Int):Option OM :=
 if (rdS (bs,0)).1<0 ∨ (bs.length:Int)<(rdS (bs,0)).1 then none
 else match dL its (rdS (bs,0)).1.toNat [] (-1,0) (rdS (bs,0)).2 with
  | none=>none
  | some (m,st)=>if st.2=0∧st.1=[] then some m else none
theorem rdS_err {st:RSt'} (h:st.2 ≠ 0):(rdS st).2=st:=by
 obtain ⟨bs,e⟩:=st
 simp only at h
 simp [rdS,rdB,rdE,h]
theorem rdS_ok {st:RSt'} (hb:Byt st.1) (h:(rdS st).2.2=0):st.2=0∧st.1=ibytes (rdS st).1++(rdS st).2.1∧Byt (rdS st).2.1:=by
 obtain ⟨bs,e⟩:=st
 have he:e=0:=by
  by_cases he:e=0
  ·exact he
  ·exfalso
   simp only [rdS,rdE,if_neg he] at h
   exact he h
 subst he
 refine ⟨rfl,?_,(rdV_lt hb 0).2⟩
 simp only [rdS,rdE,rdB,rdV,if_true] at h ⊢
 obtain ⟨w,h1,h2,_⟩:=rdU_ok bs 0 0 10 (rdU 0 0 bs).1 (rdU 0 0 bs).2.1 hb (by rw [←h]) rfl (by decide)
 have hw:(rdU 0 0 bs).1=w:=by rw [h1]; simp
 rw [hw]
 rw [ibytes,zz_unzz,Int.toNat_natCast]
 exact h2
theorem rdL_err {st:RSt'} (h:st.2 ≠ 0):∀n,(rdL n st).2=st
 | 0=>rfl
 | n+1=>by
  have e:=rdS_err h
  simp only [rdL]
  rw [e]
  exact rdL_err h n
theorem rdL_len:∀(n:Nat) (st:RSt'),(rdL n st).1.length=n
 | 0,_=>rfl
 | n+1,st=>by simp [rdL,rdL_len n]
theorem rdL_ok:∀(n:Nat) (st:RSt'),Byt st.1→(rdL n st).2.2=0→st.2=0∧st.1=(rdL n st).1.flatMap ibytes++(rdL n st).2.1∧Byt (rdL n st).2.1
 | 0,st,hb,h=>⟨h,by simp [rdL],hb⟩
 | n+1,st,hb,h=>by
  simp only [rdL] at h ⊢
  have h0:(rdS st).2.2=0:=by
   by_cases he:(rdS st).2.2=0
   ·exact he
   ·rw [rdL_err he] at h; exact absurd h he
  obtain ⟨a1,a2,a3⟩:=rdS_ok hb h0
  obtain ⟨b1,b2,b3⟩:=rdL_ok n (rdS st).2 a3 h
  refine ⟨a1,?_,b3⟩
  simp only [List.flatMap_cons,List.append_assoc]
  rw [←b2]
  exact a2
theorem rdL_byt:∀(n:Nat) (st:RSt'),Byt st.1→Byt (rdL n st).2.1
 | 0,_,hb=>hb
 | n+1,st,hb=>rdL_byt n (rdS st).2 (rdV_lt hb st.2).2
theorem nums_of {l:List Int} (hl:l.length=6) (hb:0≤l.getD 5 0∧l.getD 5 0≤1):nums (idOf l) (obOf l)=l:=by
 match l,hl with
 | [a,b,c,d,e,f],_ =>
  have hf:0≤f∧f≤1:=hb
  simp only [nums,idOf,obOf,bN,List.getD_cons_zero,List.getD_cons_succ]
  by_cases h1:f=1
  ·subst h1; rfl
  ·have h0:f=0:=by omega
   subst h0; rfl
theorem oput_new {m:OM} {k:Ky} {x:Ob} (h:oget m k=none):oput m k x=m++[(k,x)]:=by
 induction m with
 | nil=>rfl
 | cons p r ih =>
  simp only [oget] at h
  by_cases e:p.1=k
  ·simp [e] at h
  ·rw [if_neg e] at h
   simp only [oput,if_neg e,List.cons_append]
   rw [ih h]
theorem cmpK_lt {a b:Ky} (h:¬ 0≤cmpK a b):klt a b:=cmpK_neg.1 (by omega)
theorem dL_ok (its:List Item) (ht:TyOk its):∀(n:Nat) (m:OM) (last:Ky) (st:RSt') (m':OM) (st':RSt'),Byt st.1→st'.2=0→dL its n m last st=some (m',st')→(m.map Prod.fst).Pairwise klt→(∀k,k∈m.map Prod.fst→kle k last) →
  ∃t:OM,m'=m++t∧t.length=n∧(m'.map Prod.fst).Pairwise klt∧st.2=0∧st.1=(t.flatMap fun p=>obB p.1 p.2)++st'.1
 | 0,m,last,st,m',st',hb,he,h,hs,hl=>by
  simp only [dL,Option.some.injEq,Prod.mk.injEq] at h
  obtain ⟨h1,h2⟩:=h
  subst h1; subst h2
  exact ⟨[],by simp,rfl,hs,he,by simp⟩
 | n+1,m,last,st,m',st',hb,he,h,hs,hl=>by
  simp only [dL] at h
  split at h
  ·cases h
  ·rename_i hbad
   have hput:putE its m (idOf (rdL 6 st).1) (obOf (rdL 6 st).1)=0:=by
    by_cases e:putE its m (idOf (rdL 6 st).1) (obOf (rdL 6 st).1)=0
    ·exact e
    ·exact absurd (.inr (.inr (.inr e))) hbad
   have hlt:klt last (idOf (rdL 6 st).1):=cmpK_lt fun e=>hbad (.inr (.inr (.inl e)))
   have hbd:0≤(rdL 6 st).1.getD 5 0∧(rdL 6 st).1.getD 5 0≤1:=⟨by
    by_cases e:(rdL 6 st).1.getD 5 0<0
    ·exact absurd (.inl e) hbad
    ·omega,by
    by_cases e:1<(rdL 6 st).1.getD 5 0
    ·exact absurd (.inr (.inl e)) hbad
    ·omega⟩
   have hno:=(putE_ok ht hput).2.1
   rw [oput_new hno] at h
   have hkl:∀k,k∈m.map Prod.fst→klt k (idOf (rdL 6 st).1):=fun k hk=>by have:=hl k hk; unfold kle at this; unfold klt at hlt ⊢; omega
   have hby:Byt (rdL 6 st).2.1:=rdL_byt 6 st hb
   obtain ⟨t,g1,g2,g3,g4,g5⟩:=dL_ok its ht n _ _ _ m' st' hby he h (by
    rw [List.map_append,List.pairwise_append]
    exact ⟨hs,by simp,fun a ha b hb=>by simp at hb; subst hb; exact hkl a ha⟩) (fun k hk=>by
    rw [List.map_append,List.mem_append] at hk
    rcases hk with hk | hk
    ·have:=hkl k hk; unfold klt at this; unfold kle; omega
    ·simp at hk; subst hk; unfold kle; omega)
   obtain ⟨a1,a2,a3⟩:=rdL_ok 6 st hb g4
   refine ⟨(idOf (rdL 6 st).1,obOf (rdL 6 st).1)::t,by rw [g1]; simp,by simp [g2],g3,a1,?_⟩
   rw [List.flatMap_cons,List.append_assoc,←g5,obB,nums_of (rdL_len 6 st) hbd]
   exact a2
theorem cat_keys {m:OM} (hs:(m.map Prod.fst).Pairwise klt):keysOf m=m.map Prod.fst:=(keys_same (by
 unfold NdK List.Nodup
 exact hs.imp fun {a b} h=>fun e=>by subst e; exact klt_irr h) hs (fun _=>rfl)).symm
theorem enc_sorted {m:OM} (hs:(m.map Prod.fst).Pairwise klt):encB m=ibytes m.length++m.flatMap fun p=>obB p.1 p.2:=by
 have hn:NdK m:=by
  unfold NdK List.Nodup
  exact hs.imp fun {a b} h=>fun e=>by subst e; exact klt_irr h
 have h:Same m m:=⟨hn,(cat_keys hs).symm,fun _=>rfl⟩
 exact h.enc
theorem decM_ok {its:List Item} (ht:TyOk its) {bs:List Int} {m:OM} (hb:Byt bs) (h:decM its bs=some m):encB m=bs:=by
 unfold decM at h
 split at h
 ·cases h
 ·rename_i hn
  split at h
  ·cases h
  ·rename_i m' st hd
   split at h
   ·rename_i he
    injection h with h; subst h
    obtain ⟨t,g1,g2,g3,g4,g5⟩:=dL_ok its ht _ _ _ _ _ _ (rdV_lt hb 0).2 he.1 hd (by simp) (by simp)
    simp only [List.nil_append] at g1
    subst g1
    obtain ⟨a1,a2,a3⟩:=rdS_ok (st:=(bs,0)) hb g4
    rw [enc_sorted g3,g2,Int.toNat_of_nonneg (by omega)]
    rw [he.2,List.append_nil] at g5
    rw [←g5]
    exact a2.symm
   ·cases h
end Go.Proofs.YtpjpdomkcabfcaaGreatDoor
namespace Go.Proofs.YtpjpdomkcabfcaaGreatDoor
open Go.TM
theorem rdU_back:∀(f i acc w:Nat) (r:List Int),i+f=10→i≤9→w * 128 ^ i<18446744073709551616→(0<i→0<w)→rdU i acc (vbyteN f w++r)=(acc+w * 128 ^ i,r,0)
 | f,i,acc,w,r,hf,hi,hw,h0=>by
  by_cases hlt:w<128
  ·rw [vbyteN_low hlt]
   simp only [List.cons_append,List.nil_append,rdU]
   have hbad:¬ ((i=9∧(1:Int)<(w:Int)) ∨ (0<i∧(w:Int)=0)):=by
    rintro (⟨h1,h2⟩ | ⟨h1,h2⟩)
    ·subst h1
     have e9:(128:Nat) ^ 9=9223372036854775808:=by decide
     have:=Nat.mul_le_mul (show 2≤w by omega) (Nat.le_refl (128 ^ 9))
     omega
    ·have:=h0 h1; omega
   rw [if_neg hbad,if_pos (by omega)]
   simp
  ·match f,hf with
   | 0,hf=>omega
   | f+1,hf =>
    rw [vbyteN_step hlt]
    simp only [List.cons_append,rdU]
    have hp:128 ^ (i+1)=128 ^ i * 128:=Nat.pow_succ 128 i
    have hi9:i ≠ 9:=by
     rintro rfl
     have e9:(128:Nat) ^ 9=9223372036854775808:=by decide
     have:=Nat.mul_le_mul (show 128≤w by omega) (Nat.le_refl (128 ^ 9))
     omega
    have hbad:¬ ((i=9∧(1:Int)<128+((w % 128:Nat):Int)) ∨ (0<i∧128+((w % 128:Nat):Int)=0)):=by
     rintro (⟨h1,_⟩ | ⟨_,h2⟩)
     ·exact hi9 h1
     ·omega
    rw [if_neg hbad,if_neg (by omega)]
    have hm:(128+((w % 128:Nat):Int)).toNat % 128=w % 128:=by omega
    rw [hm]
    have hdm:w * 128 ^ i=w % 128 * 128 ^ i+w / 128 * 128 ^ (i+1):=by
     rw [hp,Nat.mul_comm (128 ^ i) 128,←Nat.mul_assoc,←Nat.add_mul]
     congr 1
     omega
    rw [rdU_back f (i+1) _ (w / 128) r (by omega) (by omega) (by omega) (fun _=>by omega)]
    rw [hdm,Nat.add_assoc]
variable [KObj]
theorem rdS_back {n:Int} (h:InI n) (r:List Int):rdS (ibytes n++r,0)=(n,(r,0)):=by
 obtain ⟨h1,h2⟩:=zz_nat h
 have hr:=rdU_back 10 0 0 (zz n).toNat r rfl (by decide) (by simpa using h2) (fun h=>by omega)
 simp only [rdS,rdV,rdB,rdE,if_true]
 rw [show ibytes n=vbyteN 10 (zz n).toNat from rfl,hr]
 simp only [Nat.zero_add,Nat.pow_zero,Nat.mul_one,unzz_zz]
theorem rdL_back:∀(l:List Int) (r:List Int),(∀n,n∈l→InI n)→rdL l.length (l.flatMap ibytes++r,0)=(l,(r,0))
 | [],r,_=>by simp [rdL]
 | n::l,r,h=>by
  have h1:=rdS_back (h n (by simp)) (l.flatMap ibytes++r)
  simp only [List.flatMap_cons,List.length_cons,rdL,List.append_assoc]
  rw [h1]
  simp only
  rw [rdL_back l r (fun x hx=>h x (by simp [hx]))]
theorem of_nums (k:Ky) (x:Ob):idOf (nums k x)=k∧obOf (nums k x)=x:=by
 refine ⟨rfl,?_⟩
 obtain ⟨a,b,c,d⟩:=x
 cases d <;> rfl
theorem nums_bd (k:Ky) (x:Ob):¬ (nums k x).getD 5 0<0∧¬ 1<(nums k x).getD 5 0:=by
 show ¬ bN x.bound<0∧¬ 1<bN x.bound
 unfold bN; split <;> omega
def PutOk (its:List Item) (k:Ky) (x:Ob):Prop:=putE its [] k x=0
theorem PutOk.put {its:List Item} {m:OM} {k:Ky} {x:Ob} (h:PutOk its k x) (hm:oget m k=none):putE its m k x=0:=by
 unfold PutOk at h
 unfold putE at h ⊢
 rw [hm]
 exact h
theorem dL_back (its:List Item):∀(t m:OM) (last:Ky) (r:List Int),(∀p,p∈t→PutOk its p.1 p.2∧∀n,n∈nums p.1 p.2→InI n)→(t.map Prod.fst).Pairwise klt→(∀k,k∈t.map Prod.fst→klt last k)→(∀k,k∈m.map Prod.fst→kle k last) →
  dL its t.length m last ((t.flatMap fun p=>obB p.1 p.2)++r,0)=some (m++t,(r,0))
 | [],m,last,r,_,_,_,_=>by simp [dL]
 | p::t,m,last,r,hg,hs,hl,hm=>by
  rw [List.map_cons,List.pairwise_cons] at hs
  have hp:=hg p (by simp)
  have h1:=rdL_back (nums p.1 p.2) ((t.flatMap fun p=>obB p.1 p.2)++r) hp.2
  have h6:(nums p.1 p.2).length=6:=rfl
  rw [h6] at h1
  have hlp:klt last p.1:=hl p.1 (by simp)
  have hno:oget m p.1=none:=oget_none fun h=>by
   have:=hm p.1 h
   unfold klt at hlp; unfold kle at this; omega
  simp only [List.length_cons,dL,List.flatMap_cons,List.append_assoc]
  rw [show obB p.1 p.2=(nums p.1 p.2).flatMap ibytes from rfl,h1]
  simp only
  rw [(of_nums p.1 p.2).1,(of_nums p.1 p.2).2]
  have hbad:¬ badL its m last (nums p.1 p.2):=by
   rintro (h | h | h | h)
   ·exact (nums_bd p.1 p.2).1 h
   ·exact (nums_bd p.1 p.2).2 h
   ·rw [(of_nums p.1 p.2).1] at h
    have:=cmpK_neg.2 hlp
    omega
   ·rw [(of_nums p.1 p.2).1,(of_nums p.1 p.2).2] at h
    exact h (hp.1.put hno)
  rw [if_neg hbad,oput_new hno]
  rw [dL_back its t (m++[(p.1,p.2)]) p.1 r (fun q hq=>hg q (by simp [hq])) hs.2 (fun k hk=>hs.1 k hk) (fun k hk=>by
   rw [List.map_append,List.mem_append] at hk
   rcases hk with hk | hk
   ·have:=hm k hk; unfold kle at this ⊢; unfold klt at hlp; omega
   ·simp at hk; subst hk; unfold kle; omega)]
  simp
theorem decM_back {its:List Item} {L:OM} (hs:(L.map Prod.fst).Pairwise klt) (hg:∀p,p∈L→PutOk its p.1 p.2∧∀n,n∈nums p.1 p.2→InI n) (hl:L.length≤1000) (h0:∀k,k∈L.map Prod.fst→klt (-1,0) k):decM its (encR L)=some L:=by
 have hn:InI (L.length:Nat):=⟨by omega,by omega⟩
 have h1:=rdS_back hn (L.flatMap fun p=>obB p.1 p.2)
 unfold decM encR
 rw [h1]
 have hlen:L.length≤(L.flatMap fun p=>obB p.1 p.2).length:=by
  have:∀l:OM,l.length≤(l.flatMap fun p=>obB p.1 p.2).length:=by
   intro l
   induction l with
   | nil=>simp
   | cons p l ih =>
    have hne:1≤(obB p.1 p.2).length:=by
     have:=vbytes_ne (zz p.1.1).toNat
     unfold obB nums
     simp only [List.flatMap_cons,List.length_append,ibytes]
     have:0<(vbytes (zz p.1.1).toNat).length:=List.length_pos_iff.2 this
     omega
    simp only [List.flatMap_cons,List.length_append,List.length_cons]
    omega
  exact this L
 rw [if_neg (by simp only [List.length_append]; omega)]
 simp only [Int.toNat_natCast]
 have h2:=dL_back its L [] (-1,0) [] hg hs h0 (by simp)
 rw [List.append_nil,List.nil_append] at h2
 rw [h2]
 simp
end Go.Proofs.YtpjpdomkcabfcaaGreatDoor
namespace Go.Proofs.YtpjpdomkcabfcaaGreatDoor
open Go.TM
variable [KObj]
def agC (its:List Item) (i:Nat):List AV:=[.dv (.sl 7 (its.map eItem)),.dv rulesD,.dv tabsD,.dv taxesD,.own i 0 0 []]
def agK (its:List Item) (m L:OM):Boxes:=[(0,.cells (agC its 1)),(1,.tree 0 0 (.omap pairK (m.map eEnt))),(2,.cells (agC its 3)),(3,.tree 0 0 (.osl 6 (L.map eRo)))]
structure AgS where
 k:Nat
 i:Nat
def agInv1 (its:List Item) (m L:OM) (ow:Nat):AState:=⟨4,[(0,.ptr 0 0),(1,.ptr 2 0),(5,.dv (I ow))],agK its m L⟩
def agInv2 (its:List Item) (m L:OM) (ow:Nat) (ids:List Ky):AgS→AState
 | ⟨k,i⟩=>⟨6,[(0,.ptr 0 0),(1,.ptr 2 0),(5,.dv (I ow)),(6,.own 5 0 0 []),(7,.dv (I k)),(8,.dv (I i))],agK its m L++[(5,.tree 0 0 (.osl 2 (ids.map eKy)))]⟩
theorem bytOf_eq {a b:List Int} (h:a=b):((bytOf a).toList == (bytOf b).toList)=true:=by subst h; simp
set_option maxRecDepth 100000
set_option maxHeartbeats 4000000 in
theorem agree_spec (its:List Item) (m L:OM) (hs:Same m L) (hl:m.length≤12) (hn:NumS m):CSpec Tryz.prog 20 [.ptr 0 0,.ptr 2 0] 4 (agK its m L) 0 [.dv (B true)] (agK its m L):=by
 refine cspec_of tab_ok mixed (calls_snd _) (range_snd _) Tryz.func20 rfl rfl (by kernel_rfl) ?_
 have hL:L.length≤12:=by rw [hs.len]; exact hl
 refine .inr ⟨[0,1],[.ptr 0 0],stK its m,8,_,_,encode_spec its m hs.nd hl hn,by kernel_rfl,by kernel_rfl,⟨rfl,tv⟩,⟨⟨rf,rf,rf,rf,rfl,tv⟩,⟨rfl,rfl⟩,tv⟩,?_⟩
 refine .inl ⟨closed_Y _,encB m,rfl,?_⟩
 refine .inr ⟨[2,3],[.ptr 0 0],rfK its L 0,1,_,_,rencode_spec its L (by omega) (hs.num hn),by kernel_rfl,by kernel_rfl,⟨rfl,tv⟩,⟨⟨rf,rf,rf,rf,rfl,tv⟩,⟨rfl,rfl⟩,tv⟩,?_⟩
 refine .inl ⟨closed_Y _,encR L,rfl,?_⟩
 refine ⟨by kernel_rfl,fun h=>?_,fun _=>?_⟩
 ·exfalso
  have h':(!((bytOf (encB m)).toList == (bytOf (encR L)).toList))=true:=h
  rw [bytOf_eq hs.enc] at h'
  cases h'
 refine ⟨Nat,agInv1 its m L,fun ow=>ow≤6,fun ow=>6 - ow,0,fun _=>rfl,⟨⟨rfl,rfl,rf,tv⟩,⟨⟨rf,rf,rf,rf,rfl,tv⟩,⟨rfl,rfl⟩,⟨rf,rf,rf,rf,rfl,tv⟩,⟨rfl,rfl⟩,tv⟩,rfl,rfl⟩,Nat.zero_le _,?_⟩
 intro ow how
 refine ⟨fun h=>?_,fun h=>?_⟩
 ·have how2:(ow:Int)<6:=of_decide_eq_true h
  clear h
  refine .inr ⟨[0,1],[.ptr 0 0,.dv (I ow)],stK its m,2,_,_,of_spec its m ow hs.nd hl,by kernel_rfl,by kernel_rfl,⟨rfl,rf,tv⟩,⟨⟨rf,rf,rf,rf,rfl,tv⟩,⟨rfl,rfl⟩,tv⟩,?_⟩
  have hof:=hs.of ow
  generalize ofL m ow=ids at hof
  have hil:ids.length≤12:=by rw [hof,List.length_map]; exact Nat.le_trans (List.length_filter_le _ _) hL
  refine ⟨AgS,agInv2 its m L ow ids,fun z=>z.i≤L.length∧z.k=(ownL (L.take z.i) ow).length,fun z=>L.length - z.i,⟨0,0⟩,fun ⟨_,_⟩=>rfl,⟨⟨rfl,rfl,rf,rfl,rf,rf,tv⟩,⟨⟨rf,rf,rf,rf,rfl,tv⟩,⟨rfl,rfl⟩,⟨rf,rf,rf,rf,rfl,tv⟩,⟨rfl,rfl⟩,⟨rfl,rfl⟩,tv⟩,rfl,rfl⟩,⟨Nat.zero_le _,rfl⟩,?_⟩
  rintro ⟨k,i⟩ ⟨hi,hk⟩
  dsimp only at hi hk
  refine ⟨fun h=>?_,fun h=>?_⟩
  ·have hlt:i<L.length:=by simpa using h
   clear h
   have hel:(L.map eRo)[(i:Int).toNat]?=some (eRo L[i]):=by simp [hlt]
   have hmem:L[i]∈L:=List.getElem_mem hlt
   have htk:L.take (i+1)=L.take i++[L[i]]:=List.take_succ_eq_append_getElem hlt
   have hsp:L=L.take i++L[i]::L.drop (i+1):=by rw [←List.drop_eq_getElem_cons hlt,List.take_append_drop]
   generalize L[i]=q at hel hmem htk hsp
   refine ⟨fun _=>⟨by omega,by simp; omega⟩,eRo q,fun _=>hel,fun h=>?_,fun h=>?_⟩
   ·have ho:(q.2.owner == (ow:Int))=false:=by simpa [bne] using h
    refine ⟨fun _=>⟨by omega,by omega⟩,⟨k,i+1⟩,⟨⟨rfl,rfl,rf,rfl,rf,le_int (by simp),tv⟩,⟨⟨rf,rf,rf,rf,rfl,tv⟩,⟨rfl,rfl⟩,⟨rf,rf,rf,rf,rfl,tv⟩,⟨rfl,rfl⟩,⟨rfl,rfl⟩,tv⟩,rfl,rfl⟩,⟨by show i+1≤L.length; omega,?_⟩,by show L.length - (i+1)<L.length - i; omega⟩
    show k=(ownL (L.take (i+1)) ow).length
    rw [htk,ownL,List.filter_append,List.length_append,hk]
    simp [ho,ownL]
   ·have ho:(q.2.owner == (ow:Int))=true:=by simpa [bne] using h
    have hids:ids=(ownL (L.take i) ow).map Prod.fst++q.1::(ownL (L.drop (i+1)) ow).map Prod.fst:=by
     rw [hof]
     conv=>lhs; rw [hsp]
     unfold ownL
     rw [List.filter_append,List.filter_cons,if_pos ho,List.map_append,List.map_cons]
    have hkl:k<ids.length:=by rw [hids]; simp; omega
    have hik:ids[k]?=some q.1:=by
     rw [hids,List.getElem?_append_right (by rw [List.length_map,hk]; exact Nat.le_refl _),List.length_map,hk]
     simp
    have hel2:(ids.map eKy)[(k:Int).toNat]?=some (eKy q.1):=by simp [hik]
    repeat first | refine ⟨id,?_⟩ | refine ⟨fun _ h=>bw_f h,?_⟩ | refine ⟨fun _ h=>bw_t h,?_⟩ | refine ⟨fun h=>⟨h,fun h2=>bw_and h h2⟩,?_⟩ | refine ⟨fun h=>⟨h,fun h2=>bw_andf h h2⟩,?_⟩
    refine ⟨fun _=>⟨by omega,by simp; omega⟩,id,eKy q.1,fun _=>hel2,?_⟩
    repeat first | refine ⟨id,?_⟩ | refine ⟨fun _ h=>bw_f h,?_⟩ | refine ⟨fun _ h=>bw_t h,?_⟩ | refine ⟨fun h=>⟨h,fun h2=>bw_and h h2⟩,?_⟩ | refine ⟨fun h=>⟨h,fun h2=>bw_andf h h2⟩,?_⟩
    refine ⟨fun _=>⟨by omega,by simp; omega⟩,id,id,eRo q,fun _=>hel,?_⟩
    repeat first | refine ⟨id,?_⟩ | refine ⟨fun _ h=>bw_f h,?_⟩ | refine ⟨fun _ h=>bw_t h,?_⟩ | refine ⟨fun h=>⟨h,fun h2=>bw_and h h2⟩,?_⟩ | refine ⟨fun h=>⟨h,fun h2=>bw_andf h h2⟩,?_⟩
    refine ⟨fun _=>⟨by omega,by simp; omega⟩,id,id,eRo q,fun _=>hel,?_⟩
    repeat first | refine ⟨id,?_⟩ | refine ⟨fun _ h=>bw_f h,?_⟩ | refine ⟨fun _ h=>bw_t h,?_⟩ | refine ⟨fun h=>⟨h,fun h2=>bw_and h h2⟩,?_⟩ | refine ⟨fun h=>⟨h,fun h2=>bw_andf h h2⟩,?_⟩
    refine ⟨by kernel_rfl,fun h=>?_,fun _=>?_⟩
    ·exfalso
     have h':(bif decide (((ids.map eKy).length:Int)≤(k:Int)) then true else !(q.1.1 == q.1.1 && (q.1.2 == q.1.2 && true)))=true:=h
     have hd:decide (((ids.map eKy).length:Int)≤(k:Int))=false:=by simp; omega
     rw [hd] at h'
     simp at h'
    refine ⟨fun _=>⟨by omega,by simp; omega⟩,eKy q.1,fun _=>hel2,?_⟩
    have hg:=get_spec its m q.1
    rw [hs.at hmem] at hg
    refine .inr ⟨[0,1],[.ptr 0 0,ofD (eKy q.1)],stK its m,0,_,_,hg,by kernel_rfl,by kernel_rfl,⟨rfl,⟨rf,rf,tv⟩,tv⟩,⟨⟨rf,rf,rf,rf,rfl,tv⟩,⟨rfl,rfl⟩,tv⟩,?_⟩
    repeat first | refine ⟨id,?_⟩ | refine ⟨fun _ h=>bw_f h,?_⟩ | refine ⟨fun _ h=>bw_t h,?_⟩ | refine ⟨fun h=>⟨h,fun h2=>bw_and h h2⟩,?_⟩ | refine ⟨fun h=>⟨h,fun h2=>bw_andf h h2⟩,?_⟩
    refine ⟨fun _=>⟨by omega,by simp; omega⟩,id,eRo q,fun _=>hel,?_⟩
    repeat first | refine ⟨id,?_⟩ | refine ⟨fun _ h=>bw_f h,?_⟩ | refine ⟨fun _ h=>bw_t h,?_⟩ | refine ⟨fun h=>⟨h,fun h2=>bw_and h h2⟩,?_⟩ | refine ⟨fun h=>⟨h,fun h2=>bw_andf h h2⟩,?_⟩
    refine Or.inl ⟨_,fun _=>(state_spec q.1.1 q.1.2 q.2.item q.2.owner q.2.wear q.2.bound).ok,?_⟩
    repeat first | refine ⟨id,?_⟩ | refine ⟨fun _ h=>bw_f h,?_⟩ | refine ⟨fun _ h=>bw_t h,?_⟩ | refine ⟨fun h=>⟨h,fun h2=>bw_and h h2⟩,?_⟩ | refine ⟨fun h=>⟨h,fun h2=>bw_andf h h2⟩,?_⟩
    refine ⟨by kernel_rfl,fun h=>?_,fun _=>?_⟩
    ·exfalso
     have h':(!(q.2.item == q.2.item && (q.2.owner == q.2.owner && (q.2.wear == q.2.wear && (q.2.bound == q.2.bound && true)))))=true:=h
     simp at h'
    refine ⟨fun _=>⟨by omega,by omega⟩,fun _=>⟨by omega,by omega⟩,⟨k+1,i+1⟩,⟨⟨rfl,rfl,rf,rfl,le_int (by simp),le_int (by simp),tv⟩,⟨⟨rf,rf,rf,rf,rfl,tv⟩,⟨rfl,rfl⟩,⟨rf,rf,rf,rf,rfl,tv⟩,⟨rfl,rfl⟩,⟨rfl,rfl⟩,tv⟩,rfl,rfl⟩,⟨by show i+1≤L.length; omega,?_⟩,by show L.length - (i+1)<L.length - i; omega⟩
    show k+1=(ownL (L.take (i+1)) ow).length
    rw [htk,ownL,List.filter_append,List.length_append,hk]
    simp [ho,ownL]
  ·have he0:¬ i<L.length:=by simpa using h
   have he:i=L.length:=by omega
   subst he
   have hk2:k=ids.length:=by rw [hk,List.take_length,hof,List.length_map]
   refine ⟨fun h=>?_,fun _=>?_⟩
   ·exfalso
    have h':((k:Int) != ((ids.map eKy).length:Int))=true:=h
    rw [hk2] at h'
    simp at h'
   exact ⟨fun _=>⟨by omega,by omega⟩,ow+1,⟨⟨rfl,rfl,le_int (by simp),tv⟩,⟨⟨rf,rf,rf,rf,rfl,tv⟩,⟨rfl,rfl⟩,⟨rf,rf,rf,rf,rfl,tv⟩,⟨rfl,rfl⟩,tv⟩,rfl,rfl⟩,by show ow+1≤6; omega,by show 6 - (ow+1)<6 - ow; omega⟩
 ·exact ⟨_,_,⟨rfl,rfl⟩,by kernel_rfl,⟨rf,tv⟩,⟨rf,rf,rf,rf,rfl,tv⟩,⟨rfl,rfl⟩,⟨rf,rf,rf,rf,rfl,tv⟩,⟨rfl,rfl⟩,tv⟩
end Go.Proofs.YtpjpdomkcabfcaaGreatDoor
namespace Go.Proofs.YtpjpdomkcabfcaaGreatDoor
open Go.TM
variable [KObj]
set_option maxRecDepth 100000
def scK (its:List Item) (m L:OM):Boxes:=[(3,.cells (agC its 2)),(2,.tree 0 0 (.omap pairK (m.map eEnt))),(4,.cells (agC its 5)),(5,.tree 0 0 (.osl 6 (L.map eRo)))]
theorem both_ok (n k:Int):∃b w,0≤b∧b≤2∧1≤w∧w≤40∧CSpec Tryz.prog 9 [.dv (I n),.dv (I k)] 0 [] 5 [.ptr 3 0,.ptr 4 0,.dv (B true)] (bothK b w):=by
 have h1:=around_bd n 3 (by omega)
 have h2:=around_bd k 40 (by omega)
 exact ⟨_,_,h1.1,by omega,by omega,by omega,both_spec n k⟩
structure Goes (its:List Item) (m L:OM):Prop where
 fit:Fit its m
 same:Same m L
 ko:KO m
theorem Goes.len {its:List Item} {m L:OM} (h:Goes its m L):m.length≤12∧L.length≤12:=by
 have:=h.fit.len
 have:=h.same.len
 omega
theorem Goes.okL {its:List Item} {m L:OM} (h:Goes its m L):OkS its L:=fun k x hx=>h.fit.ok k x ((h.same.get k).trans hx)
theorem goes_nil (its:List Item):Goes its [] []:=⟨fit_nil its,same_nil,fun k x h=>by simp [oget] at h⟩
theorem opAt_in (l:List Int) (i:Int):InI (opK (opAt l i)).1∧InI (opK (opAt l i)).2:=by
 have h1:=pick_bd l (6 * i+3) 3 (by omega)
 have h2:=pick_bd l (6 * i+3) 2 (by omega)
 refine ⟨⟨by simp only [opK,opAt]; omega,by simp only [opK,opAt]; omega⟩,?_⟩
 simp only [opK,opAt]
 split <;> exact ⟨by omega,by omega⟩
theorem Goes.op {its:List Item} {m L:OM} (h:Goes its m L) (ht:TyOk its) {l:List Int} {i:Int}:Goes its (doM its m (opAt l i)) (rdoM its L (opAt l i)) :=
 ⟨fit_doM h.fit ht (opAt_key l i),sim_doM h.same ht _,ko_doM h.ko h.fit.nd (opAt_in l i)⟩
end Go.Proofs.YtpjpdomkcabfcaaGreatDoor
namespace Go.Proofs.YtpjpdomkcabfcaaGreatDoor
open Go.TM
variable [KObj]
theorem vbyteN_le:∀(f j n:Nat),n<128 ^ (j+1)→(vbyteN f n).length≤j+1
 | 0,j,n,_=>by simp [vbyteN]
 | f+1,j,n,h=>by
  by_cases hl:n<128
  ·rw [vbyteN_low hl]; simp
  ·rw [vbyteN_step hl]
   match j,h with
   | 0,h=>omega
   | j+1,h =>
    have:=vbyteN_le f j (n / 128) (by
     rw [Nat.div_lt_iff_lt_mul (by decide)]
     exact h)
    simp only [List.length_cons]; omega
theorem ibytes_small {n:Int} (h:0≤n) (h1:n<64):(ibytes n).length≤1:=by
 unfold ibytes vbytes
 refine vbyteN_le 10 0 _ ?_
 unfold zz
 rw [if_neg (by omega)]
 omega
theorem ibytes_owner {n:Int} (h:0≤n) (h1:n≤1073741824):(ibytes n).length≤5:=by
 unfold ibytes vbytes
 refine vbyteN_le 10 4 _ ?_
 unfold zz
 rw [if_neg (by omega)]
 have e:(128:Nat) ^ (4+1)=34359738368:=by decide
 rw [e]
 omega
theorem ibytes_pos (n:Int):1≤(ibytes n).length:=List.length_pos_iff.2 (vbytes_ne _)
theorem vbyteN_byt:∀(f n:Nat),n<128 ^ (f+1)→Byt (vbyteN f n)
 | 0,n,h=>by
  intro b hb
  rw [vbyteN] at hb
  simp at hb
  subst hb
  exact ⟨by omega,by omega⟩
 | f+1,n,h=>by
  by_cases hl:n<128
  ·rw [vbyteN_low hl]
   intro b hb
   simp at hb; subst hb
   exact ⟨by omega,by omega⟩
  ·rw [vbyteN_step hl]
   intro b hb
   rcases List.mem_cons.1 hb with rfl | hb
   ·exact ⟨by omega,by omega⟩
   ·exact vbyteN_byt f (n / 128) (by
     rw [Nat.div_lt_iff_lt_mul (by decide)]
     exact h) b hb
theorem ibytes_byt {n:Int} (h:InI n):Byt (ibytes n):=by
 obtain ⟨_,h2⟩:=zz_nat h
 refine vbyteN_byt 10 _ (Nat.lt_of_lt_of_le h2 (by decide))
theorem encR_byt {L:OM} (hl:L.length≤1000) (hn:∀p,p∈L→∀n,n∈nums p.1 p.2→InI n):Byt (encR L):=by
 intro b hb
 unfold encR at hb
 rcases List.mem_append.1 hb with hb | hb
 ·exact ibytes_byt ⟨by omega,by omega⟩ b hb
 ·obtain ⟨p,hp,hb⟩:=List.mem_flatMap.1 hb
  obtain ⟨n,hn',hb⟩:=List.mem_flatMap.1 hb
  exact ibytes_byt (hn p hp n hn') b hb
def TO (its:List Item) (m:OM):Prop:=∀k x,oget m k=some x→isOwner x.owner=true∧∃t,typeOf its x.item=some t
theorem TO.put {its:List Item} {m:OM} (h:TO its m) {k:Ky} {x:Ob} (hk:isOwner x.owner=true∧∃t,typeOf its x.item=some t):TO its (oput m k x):=by
 intro q y hy
 rw [oget_put] at hy
 split at hy
 ·injection hy with hy; subst hy; exact hk
 ·exact h q y hy
theorem putE_to {its:List Item} {m:OM} {k:Ky} {x:Ob} (h:putE its m k x=0):isOwner x.owner=true∧∃t,typeOf its x.item=some t:=by
 unfold putE at h
 split at h
 ·simp at h
 ·rename_i hb
  refine ⟨by
   cases e:isOwner x.owner
   ·exact absurd (.inr (.inr (.inr e))) hb
   ·rfl,?_⟩
  split at h
  ·simp at h
  ·rename_i t ht
   exact ⟨t,ht⟩
theorem to_putM {its:List Item} {m:OM} (h:TO its m) {k:Ky} {x:Ob}:TO its (putM its m k x):=by
 unfold putM
 split
 ·rename_i e; exact h.put (putE_to e)
 ·exact h
theorem to_doM {its:List Item} {m:OM} (h:TO its m) (hn:NdK m) (o:Op):TO its (doM its m o):=by
 unfold doM
 split
 ·exact to_putM h
 ·split
  ·unfold givM
   split
   ·rename_i e
    obtain ⟨x,hx,he,_⟩:=givE_ok e
    have hg:=e
    unfold givE at hg
    split at hg
    ·rename_i h1; exact absurd hg h1
    ·split at hg
     ·simp at hg
     ·rename_i h2
      rw [he]
      refine h.put ⟨?_,(h _ _ hx).2⟩
      show isOwner o.a=true
      cases e:isOwner o.a
      ·exact absurd (.inl e) h2
      ·rfl
   ·exact h
  ·split
   ·unfold useM
    split
    ·rename_i e
     obtain ⟨x,hx,he,_⟩:=useE_ok e
     rw [he]
     have h0:=h _ _ hx
     exact h.put ⟨h0.1,h0.2⟩
    ·exact h
   ·split
    ·unfold repM
     split
     ·rename_i e
      obtain ⟨x,hx,he,_⟩:=repE_ok e
      rw [he]
      have h0:=h _ _ hx
      exact h.put ⟨h0.1,h0.2⟩
     ·exact h
    ·split
     ·intro q y hy
      rw [oget_del hn] at hy
      split at hy
      ·cases hy
      ·exact h q y hy
     ·exact to_putM h
theorem fit_putOk {its:List Item} {m:OM} (hf:Fit its m) (ht:TO its m) {k:Ky} {x:Ob} (hx:oget m k=some x):PutOk its k x:=by
 obtain ⟨h1,t,h2⟩:=ht k x hx
 have h3:=hf.ok k x hx
 have h4:=hf.bd k (List.mem_map.2 ⟨_,oget_mem hx,rfl⟩)
 obtain ⟨_,_,h5⟩:=typeOf_some h2
 have h6:=h3.w1
 rw [h5] at h6
 have h7:=h3.w0
 unfold PutOk putE
 rw [if_neg (by rintro (h | h | h | h); omega; omega; omega; rw [h1] at h; cases h),h2]
 simp only
 rw [if_neg (by omega)]
 rfl
theorem obB_len {its:List Item} {m:OM} (hf:Fit its m) (ht:TO its m) (hlen:its.length≤64) (hw:∀i:Nat,(its.getD i Item.zero).wear<64) {k:Ky} {x:Ob} (hx:oget m k=some x):(obB k x).length≤10:=by
 obtain ⟨h1,_⟩:=ht k x hx
 have h3:=hf.ok k x hx
 have h4:=hf.bd k (List.mem_map.2 ⟨_,oget_mem hx,rfl⟩)
 have hw':=hw x.item.toNat
 have:=h3.lo; have:=h3.hi; have:=h3.w0; have:=h3.w1
 unfold isOwner at h1
 simp only [Bool.and_eq_true,decide_eq_true_eq] at h1
 have b1:=ibytes_small (n:=k.1) (by omega) (by omega)
 have b2:=ibytes_small (n:=k.2) (by omega) (by omega)
 have b3:=ibytes_small (n:=x.item) (by omega) (by omega)
 have b4:=ibytes_owner (n:=x.owner) (by omega) (by omega)
 have b5:=ibytes_small (n:=x.wear) (by omega) (by omega)
 have b6:=ibytes_small (n:=bN x.bound) (by unfold bN; split <;> omega) (by unfold bN; split <;> omega)
 unfold obB nums
 simp only [List.flatMap_cons,List.flatMap_nil,List.length_append,List.length_nil]
 omega
theorem flat_le (L:OM) (c:Nat) (h:∀p,p∈L→(obB p.1 p.2).length≤c):(L.flatMap fun p=>obB p.1 p.2).length≤c * L.length:=by
 induction L with
 | nil=>simp
 | cons p l ih =>
  have h1:=h p (by simp)
  have h2:=ih fun q hq=>h q (by simp [hq])
  simp only [List.flatMap_cons,List.length_append,List.length_cons,Nat.mul_add,Nat.mul_one]
  omega
theorem flat_min (L:OM):6 * L.length≤(L.flatMap fun p=>obB p.1 p.2).length:=by
 induction L with
 | nil=>simp
 | cons p l ih =>
  have h:6≤(obB p.1 p.2).length:=by
   unfold obB nums
   simp only [List.flatMap_cons,List.flatMap_nil,List.length_append,List.length_nil]
   have b1:=ibytes_pos p.1.1
   have b2:=ibytes_pos p.1.2
   have b3:=ibytes_pos p.2.item
   have b4:=ibytes_pos p.2.owner
   have b5:=ibytes_pos p.2.wear
   have b6:=ibytes_pos (bN p.2.bound)
   omega
  simp only [List.flatMap_cons,List.length_append,List.length_cons]
  omega
theorem unzz_in (u:Nat) (h:u<18446744073709551616):InI (unzz u):=by
 unfold unzz
 split <;> exact ⟨by omega,by omega⟩
theorem rdS_in {st:RSt'} (hb:Byt st.1):InI (rdS st).1:=unzz_in _ (rdV_lt hb st.2).1
theorem rdL_in:∀(n:Nat) (st:RSt'),Byt st.1→∀x,x∈(rdL n st).1→InI x
 | 0,_,_,x,hx=>by simp [rdL] at hx
 | n+1,st,hb,x,hx=>by
  simp only [rdL] at hx
  rcases List.mem_cons.1 hx with rfl | hx
  ·exact rdS_in hb
  ·exact rdL_in n _ (rdV_lt hb st.2).2 x hx
theorem dL_in (its:List Item):∀(n:Nat) (m:OM) (last:Ky) (st:RSt') (r:OM × RSt'),Byt st.1→NumS m→dL its n m last st=some r→NumS r.1
 | 0,m,last,st,r,_,hm,h=>by
  simp only [dL,Option.some.injEq] at h
  subst h; exact hm
 | n+1,m,last,st,r,hb,hm,h=>by
  simp only [dL] at h
  split at h
  ·cases h
  ·rename_i hbad
   refine dL_in its n _ _ _ r (rdL_byt 6 st hb) ?_ h
   intro q y hy
   rw [oget_put] at hy
   split at hy
   ·rename_i e
    injection hy with hy; subst hy; subst e
    intro x hx
    rw [nums_of (rdL_len 6 st) ⟨by
     by_cases e:(rdL 6 st).1.getD 5 0<0
     ·exact absurd (.inl e) hbad
     ·omega,by
     by_cases e:1<(rdL 6 st).1.getD 5 0
     ·exact absurd (.inr (.inl e)) hbad
     ·omega⟩] at hx
    exact rdL_in 6 st hb x hx
   ·exact hm q y hy
structure DecOk (bs:List Int) (m:OM):Prop where
 enc:encB m=bs
 nd:NdK m
 num:NumS m
 len:6 * m.length+1≤bs.length
theorem decM_all {its:List Item} (ht:TyOk its) {bs:List Int} {m:OM} (hb:Byt bs) (h:decM its bs=some m):DecOk bs m:=by
 have henc:=decM_ok ht hb h
 unfold decM at h
 split at h
 ·cases h
 ·rename_i hn
  split at h
  ·cases h
  ·rename_i m' st hd
   split at h
   ·rename_i he
    injection h with h; subst h
    obtain ⟨t,g1,g2,g3,g4,g5⟩:=dL_ok its ht _ _ _ _ _ _ (rdV_lt hb 0).2 he.1 hd (by simp) (by simp)
    refine ⟨henc,?_,dL_in its _ _ _ _ _ (rdV_lt hb 0).2 (fun k x h=>by simp [oget] at h) hd,?_⟩
    ·unfold NdK List.Nodup
     exact g3.imp fun {a b} h=>fun e=>by subst e; exact klt_irr h
    ·rw [←henc,enc_sorted g3,List.length_append]
     have:=flat_min m'
     have:=ibytes_pos (m'.length:Nat)
     omega
   ·cases h
end Go.Proofs.YtpjpdomkcabfcaaGreatDoor
