import Derived.Test.YtpjpdomkcabfcaaGreatDoorBM18
set_option linter.unusedVariables false
set_option linter.unusedSimpArgs false
set_option linter.unusedSectionVars false
namespace Go.Proofs.YtpjpdomkcabfcaaGreatDoor
open Go.TM
variable [KObj]
set_option maxRecDepth 100000
def stCn (i:Nat) (its:List Item):List AV:=[.dv (.sl 7 (its.map eItem)),.dv rulesD,.dv tabsD,.dv taxesD,.own i 0 0 []]
def bothK (b w:Int):Boxes:=[(3,.cells (stCn 2 (itemsL b w))),(2,.tree 0 0 (.omap pairK [])),(4,.cells (dvs [.sl 7 (itemsD (I b) (I w)),rulesD,tabsD,taxesD,.nils]))]
set_option maxHeartbeats 4000000 in
theorem both_spec (n k:Int):CSpec Tryz.prog 9 [.dv (I n),.dv (I k)] 0 [] 5 [.ptr 3 0,.ptr 4 0,.dv (B true)] (bothK (around n 3) (1+around k 40)):=by
 refine cspec_of tab_ok mixed (calls_snd _) (range_snd _) Tryz.func9 rfl rfl (by kernel_rfl) ?_
 refine .inl ⟨_,fun _=>cat_spec.ok,?_⟩
 refine .inl ⟨_,fun _=>(binding_spec 2 20 n k).ok,?_⟩
 have hn:=around_bd n 3 (by omega)
 have hk:=around_bd k 40 (by omega)
 refine .inr ⟨[],[ofD (catD (I (around n 3)) (I (1+around k 40)))],[],3,_,_,new_spec (by omega) (by omega),by kernel_rfl,by kernel_rfl,⟨⟨rf,rf,rf,rf,tv⟩,tv⟩,tv,?_⟩
 exact ⟨id,fun _=>bw_t,by kernel_rfl,_,_,⟨rfl,rfl⟩,by kernel_rfl,⟨rfl,rfl,rf,tv⟩,⟨rf,rf,rf,rf,rfl,tv⟩,⟨rfl,rfl⟩,⟨rf,rf,rf,rf,rf,tv⟩,tv⟩
theorem okS_one {its:List Item} {k:Ky} {x:Ob} (h:OkO its x):OkS its [(k,x)]:=by
 intro k' y hy
 simp only [oget] at hy
 split at hy
 ·injection hy with hy; subst hy; exact h
 ·cases hy
def lits:List Item:=itemsL 2 20
theorem lk:OkS lits [((7,0),⟨4,1,20,false⟩)]:=okS_one ⟨by decide,by decide,by decide,by decide,by decide⟩
theorem lk2:OkS lits [((7,0),⟨4,2,20,false⟩)]:=okS_one ⟨by decide,by decide,by decide,by decide,by decide⟩
theorem lk3:OkS lits [((7,0),⟨4,2,15,true⟩)]:=okS_one ⟨by decide,by decide,by decide,by decide,by decide⟩
theorem live_make:CSpec Tryz.prog 18 [.ptr 0 0,ofD (eKy (7,0)),.dv (I 4),.dv (I 1)] 2 (stK lits []) 0 [.dv (I 0)] (stK lits [((7,0),⟨4,1,20,false⟩)]):=make_spec lits [] (7,0) 4 1
theorem live_give:CSpec Tryz.prog 36 [.ptr 0 0,ofD (eKy (7,0)),.dv (I 1),.dv (I 2)] 2 (stK lits [((7,0),⟨4,1,20,false⟩)]) 0 [.dv (I 0)] (stK lits [((7,0),⟨4,2,20,false⟩)]):=giv_spec lits _ (7,0) 1 2 lk
theorem live_use1:CSpec Tryz.prog 37 [.ptr 0 0,ofD (eKy (7,0)),.dv (I 2),.dv (I 2),.dv (I 5)] 2 (stK lits [((7,0),⟨4,2,20,false⟩)]) 0 [.dv (I 12)] (stK lits [((7,0),⟨4,2,20,false⟩)]):=use_spec lits _ (7,0) 2 2 5 lk2
theorem live_use2:CSpec Tryz.prog 37 [.ptr 0 0,ofD (eKy (7,0)),.dv (I 2),.dv (I 3),.dv (I 5)] 2 (stK lits [((7,0),⟨4,2,20,false⟩)]) 0 [.dv (I 0)] (stK lits [((7,0),⟨4,2,15,true⟩)]):=use_spec lits _ (7,0) 2 3 5 lk2
theorem live_give2:CSpec Tryz.prog 36 [.ptr 0 0,ofD (eKy (7,0)),.dv (I 2),.dv (I 1)] 2 (stK lits [((7,0),⟨4,2,15,true⟩)]) 0 [.dv (I 11)] (stK lits [((7,0),⟨4,2,15,true⟩)]):=giv_spec lits _ (7,0) 2 1 lk3
theorem live_get:CSpec Tryz.prog 12 [.ptr 0 0,ofD (eKy (7,0))] 2 (stK lits [((7,0),⟨4,2,15,true⟩)]) 0 [ofD (eOb ⟨4,2,15,true⟩),.dv (B true)] (stK lits [((7,0),⟨4,2,15,true⟩)]):=get_spec lits _ (7,0)
set_option maxHeartbeats 4000000 in
theorem lives_spec:PSpec Tryz.prog 14 [] [B true]:=by
 refine pspec_of tab_ok mixed (calls_snd _) (range_snd _) Tryz.func14 rfl (by kernel_rfl) rfl ?_
 refine .inl ⟨_,fun _=>cat_spec.ok,?_⟩
 refine .inr ⟨[],[ofD (catD (I 2) (I 20))],[],3,_,_,new_spec (by omega) (by omega),by kernel_rfl,by kernel_rfl,⟨⟨rf,rf,rf,rf,tv⟩,tv⟩,tv,?_⟩
 repeat first | refine ⟨id,?_⟩ | refine ⟨fun _ h=>bw_f h,?_⟩ | refine ⟨fun _ h=>bw_t h,?_⟩ | refine ⟨fun h=>⟨h,fun h2=>bw_and h h2⟩,?_⟩ | refine ⟨fun h=>⟨h,fun h2=>bw_andf h h2⟩,?_⟩
 refine ⟨fun h=>(by cases h),fun _=>?_⟩
 refine .inr ⟨[2,1],[.ptr 0 0,ofD (eKy (7,0)),.dv (I 4),.dv (I 1)],stK lits [],0,_,_,live_make,by kernel_rfl,by kernel_rfl,⟨rfl,⟨rf,rf,tv⟩,rf,rf,tv⟩,⟨⟨rf,rf,rf,rf,rfl,tv⟩,⟨rfl,rfl⟩,tv⟩,?_⟩
 refine .inr ⟨[2,1],[.ptr 0 0,ofD (eKy (7,0)),.dv (I 1),.dv (I 2)],stK lits [((7,0),⟨4,1,20,false⟩)],0,_,_,live_give,by kernel_rfl,by kernel_rfl,⟨rfl,⟨rf,rf,tv⟩,rf,rf,tv⟩,⟨⟨rf,rf,rf,rf,rfl,tv⟩,⟨rfl,rfl⟩,tv⟩,?_⟩
 refine .inr ⟨[2,1],[.ptr 0 0,ofD (eKy (7,0)),.dv (I 2),.dv (I 2),.dv (I 5)],stK lits [((7,0),⟨4,2,20,false⟩)],0,_,_,live_use1,by kernel_rfl,by kernel_rfl,⟨rfl,⟨rf,rf,tv⟩,rf,rf,rf,tv⟩,⟨⟨rf,rf,rf,rf,rfl,tv⟩,⟨rfl,rfl⟩,tv⟩,?_⟩
 refine .inr ⟨[2,1],[.ptr 0 0,ofD (eKy (7,0)),.dv (I 2),.dv (I 3),.dv (I 5)],stK lits [((7,0),⟨4,2,20,false⟩)],0,_,_,live_use2,by kernel_rfl,by kernel_rfl,⟨rfl,⟨rf,rf,tv⟩,rf,rf,rf,tv⟩,⟨⟨rf,rf,rf,rf,rfl,tv⟩,⟨rfl,rfl⟩,tv⟩,?_⟩
 refine .inr ⟨[2,1],[.ptr 0 0,ofD (eKy (7,0)),.dv (I 2),.dv (I 1)],stK lits [((7,0),⟨4,2,15,true⟩)],0,_,_,live_give2,by kernel_rfl,by kernel_rfl,⟨rfl,⟨rf,rf,tv⟩,rf,rf,tv⟩,⟨⟨rf,rf,rf,rf,rfl,tv⟩,⟨rfl,rfl⟩,tv⟩,?_⟩
 refine .inr ⟨[2,1],[.ptr 0 0,ofD (eKy (7,0))],stK lits [((7,0),⟨4,2,15,true⟩)],0,_,_,live_get,by kernel_rfl,by kernel_rfl,⟨rfl,⟨rf,rf,tv⟩,tv⟩,⟨⟨rf,rf,rf,rf,rfl,tv⟩,⟨rfl,rfl⟩,tv⟩,?_⟩
 repeat first | refine ⟨id,?_⟩ | refine ⟨fun _ h=>bw_f h,?_⟩ | refine ⟨fun _ h=>bw_t h,?_⟩ | refine ⟨fun h=>⟨h,fun h2=>bw_and h h2⟩,?_⟩ | refine ⟨fun h=>⟨h,fun h2=>bw_andf h h2⟩,?_⟩
 exact ⟨rf,tv⟩
end Go.Proofs.YtpjpdomkcabfcaaGreatDoor
namespace Go.Proofs.YtpjpdomkcabfcaaGreatDoor
open Go.TM
def pick (l:List Int) (i m:Int):Int:=if i<0 then 0 else match l[i.toNat]? with | some x=>around x m | none=>0
structure Op where
 kind:Int
 flow:Int
 pos:Int
 item:Int
 owner:Int
 wear:Int
 bound:Bool
 a:Int
 b:Int
def eOp (o:Op):DV:=.agg [I o.kind,I o.flow,I o.pos,I o.item,I o.owner,I o.wear,B o.bound,I o.a,I o.b]
def kindsL:List Int:=[0,0,0,1,1,2,2,3,4,5]
def opAt (l:List Int) (i:Int):Op where
 kind:=kindsL.getD (pick l (6 * i) 10).toNat 0
 flow:=pick l (6 * i+3) 3
 pos:=if pick l (6 * i+5) 13=5 then -1 else pick l (6 * i+3) 2
 item:=if pick l (6 * i+4) 11=5 then pick l (6 * i+5) 7 - 1 else 4
 owner:=1+pick l (6 * i+4) 3
 wear:=pick l (6 * i+5) 22
 bound:=pick l (6 * i+5) 2 == 0
 a:=if pick l (6 * i+2) 17=3 then 1073741825 else pick l (6 * i+1) 5
 b:=pick l (6 * i+2) 9
def opsN (l:List Int):Nat→List Op
 | 0=>[]
 | k+1=>opsN l k++[opAt l k]
theorem opsN_len (l:List Int):∀k,(opsN l k).length=k
 | 0=>rfl
 | k+1=>by simp [opsN,opsN_len l k]
def opsK (l:List Int):Nat:=min 20 ((l.length+5) / 6)
def opsL (l:List Int):List Op:=opsN l (opsK l)
theorem pick_bd (l:List Int) (i m:Int) (hm:1≤m):0≤pick l i m∧pick l i m<m:=by
 unfold pick
 split
 ·omega
 ·split
  ·exact around_bd _ m hm
  ·omega
variable [KObj]
set_option maxRecDepth 100000
theorem pick_spec (l:List Int) (i m:Int) (hm:1≤m) (hm2:m≤1000000):PSpec Tryz.prog 33 [Ints l,I i,I m] [I (pick l i m)]:=by
 refine pspec_of tab_ok mixed (calls_snd _) (range_snd _) Tryz.func33 rfl (by kernel_rfl) rfl ?_
 repeat first | refine ⟨id,?_⟩ | refine ⟨fun _ h=>bw_f h,?_⟩ | refine ⟨fun _ h=>bw_t h,?_⟩ | refine ⟨fun h=>⟨h,fun h2=>bw_and h h2⟩,?_⟩ | refine ⟨fun h=>⟨h,fun h2=>bw_andf h h2⟩,?_⟩
 refine ⟨fun h=>?_,fun h=>?_⟩
 ·refine ⟨le_int ?_,tv⟩
  unfold pick
  split
  ·rfl
  ·rename_i hi
   have hm':¬ m<1:=by omega
   have:(l.length:Int)≤i:=by simpa [hi,hm'] using h
   rw [List.getElem?_eq_none (by omega)]
 ·have hi:¬ i<0:=fun hi=>by simp [hi] at h
  have hi2:¬ (l.length:Int)≤i:=fun hi2=>by simp [hi,hi2] at h
  have hlt:i.toNat<l.length:=by omega
  refine ⟨I l[i.toNat],fun _=>⟨by omega,by simp [hlt]⟩,?_⟩
  refine .inl ⟨_,fun _=>(around_spec _ m hm (by omega)).ok,le_int ?_,tv⟩
  unfold pick
  rw [if_neg hi,List.getElem?_eq_getElem hlt]
theorem by27:(nth tab (nth tab 27).elem).bytes=72:=rfl
set_option maxHeartbeats 4000000 in
theorem ops_spec (l:List Int):PSpec Tryz.prog 10 [Ints l] [.sl 9 ((opsL l).map eOp)]:=by
 refine pspec_of tab_ok mixed (calls_snd _) (range_snd _) Tryz.func10 rfl (by kernel_rfl) rfl ?_
 refine ⟨Nat,fun k=>⟨1,[(0,.dv (Ints l)),(3,.own 0 0 0 []),(4,.dv (I k))],[(0,.tree 0 0 (.osl 9 ((opsN l k).map eOp)))]⟩,fun k=>k≤opsK l,fun k=>opsK l - k,0,fun _=>rfl,⟨⟨rf,⟨rfl,rfl,rfl,rfl,9,rfl⟩,rf,tv⟩,⟨⟨rfl,rfl,9,rfl⟩,tv⟩,rfl,rfl⟩,by omega,?_⟩
 intro k hk
 have hK:opsK l≤20:=by unfold opsK; omega
 refine ⟨id,fun _=>⟨by omega,by omega⟩,id,id,id,fun _ h=>bw_t h,fun h=>?_,fun h=>?_⟩
 ·obtain ⟨h1,h2⟩:=bif_t h
  have h1:(k:Int)<20:=of_decide_eq_true h1
  have h2:6 * (k:Int)<l.length:=by simpa using h2
  clear h
  have hk1:k+1≤opsK l:=by unfold opsK; omega
  refine ⟨fun _=>⟨by omega,by omega⟩,?_⟩
  refine .inl ⟨kindsL.map I,rfl,⟨rf,rf,rf,rf,rf,rf,rf,rf,rf,rf,tv⟩,(fun x hx=>by
   obtain ⟨n,_,rfl⟩:=List.mem_map.1 hx
   rfl),?_⟩
  have b0:=pick_bd l (6 * k) 10 (by omega)
  have b1:=pick_bd l (6 * k+1) 5 (by omega)
  have b4:=pick_bd l (6 * k+4) 3 (by omega)
  have b7:=pick_bd l (6 * k+5) 7 (by omega)
  refine .inl ⟨_,fun _=>(pick_spec l (6 * k) 10 (by omega) (by omega)).ok,?_⟩
  refine ⟨I (kindsL.getD (pick l (6 * k) 10).toNat 0),fun _=>⟨b0.1,?_⟩,?_⟩
  ·have:(pick l (6 * k) 10).toNat<kindsL.length:=by show _<10; omega
   rw [List.getElem?_map,List.getElem?_eq_getElem this,List.getD_eq_getElem?_getD,List.getElem?_eq_getElem this]; rfl
  refine ⟨fun _=>⟨by omega,by omega⟩,.inl ⟨_,fun _=>(pick_spec l (6 * k+1) 5 (by omega) (by omega)).ok,?_⟩⟩
  refine ⟨fun _=>⟨by omega,by omega⟩,.inl ⟨_,fun _=>(pick_spec l (6 * k+2) 9 (by omega) (by omega)).ok,?_⟩⟩
  refine ⟨by kernel_rfl,⟨fun _=>⟨by omega,by omega⟩,.inl ⟨_,fun _=>(pick_spec l (6 * k+3) 3 (by omega) (by omega)).ok,?_⟩⟩⟩
  refine ⟨fun _=>⟨by omega,by omega⟩,.inl ⟨_,fun _=>(pick_spec l (6 * k+3) 2 (by omega) (by omega)).ok,?_⟩⟩
  refine ⟨fun _=>⟨by omega,by omega⟩,.inl ⟨_,fun _=>(pick_spec l (6 * k+4) 3 (by omega) (by omega)).ok,?_⟩⟩
  refine ⟨fun _=>⟨by omega,by omega⟩,?_⟩
  refine ⟨fun _=>⟨by omega,by omega⟩,.inl ⟨_,fun _=>(pick_spec l (6 * k+5) 22 (by omega) (by omega)).ok,?_⟩⟩
  refine ⟨fun _=>⟨by omega,by omega⟩,.inl ⟨_,fun _=>(pick_spec l (6 * k+5) 2 (by omega) (by omega)).ok,?_⟩⟩
  refine ⟨fun _=>⟨by omega,by omega⟩,.inl ⟨_,fun _=>(pick_spec l (6 * k+4) 11 (by omega) (by omega)).ok,?_⟩⟩
  refine And.intro ?_ ?_
  ·intro h4
   have h4':(pick l (6 * k+4) 11 == 5)=true:=h4
   have hA:pick l (6 * k+4) 11=5:=by simpa using h4'
   clear h4 h4'
   refine ⟨fun _=>⟨by omega,by omega⟩,.inl ⟨_,fun _=>(pick_spec l (6 * k+5) 7 (by omega) (by omega)).ok,?_⟩⟩
   refine ⟨fun _=>⟨by omega,by omega⟩,?_⟩
   refine ⟨fun _=>⟨by omega,by omega⟩,.inl ⟨_,fun _=>(pick_spec l (6 * k+5) 13 (by omega) (by omega)).ok,?_⟩⟩
   refine And.intro ?_ ?_
   ·intro h5
    have h5':(pick l (6 * k+5) 13 == 5)=true:=h5
    have hB:pick l (6 * k+5) 13=5:=by simpa using h5'
    clear h5 h5'
    refine ⟨fun _=>⟨by omega,by omega⟩,.inl ⟨_,fun _=>(pick_spec l (6 * k+2) 17 (by omega) (by omega)).ok,?_⟩⟩
    refine And.intro ?_ ?_
    ·intro h6
     have h6':(pick l (6 * k+2) 17 == 3)=true:=h6
     have hC:pick l (6 * k+2) 17=3:=by simpa using h6'
     clear h6 h6'
     refine .inl ⟨[eOp (opAt l k)],rfl,⟨rf,rf,le_int (by simp [opAt,hB]),le_int (by simp [opAt,hA]),rf,rf,DV.Le.of_eq (by simp [opAt]),le_int (by simp [opAt,hC]),rf,tv⟩,(fun x hx=>by rcases List.mem_singleton.1 hx with rfl; rfl),?_⟩
     refine .inr ⟨[eOp (opAt l k)],ELes.refl _,(by rw [by27]; simp [opsN_len]; omega),(by simp [opsN_len]; omega),?_⟩
     exact ⟨fun _=>⟨by omega,by omega⟩,k+1,⟨⟨rf,rfl,le_int (by omega),tv⟩,⟨⟨rfl,by simp [opsN]⟩,tv⟩,rfl,rfl⟩,hk1,(by show opsK l - (k+1)<opsK l - k; omega)⟩
    ·intro h6
     have h6':(pick l (6 * k+2) 17 == 3)=false:=h6
     have hC:¬ pick l (6 * k+2) 17=3:=by simpa using h6'
     clear h6 h6'
     refine .inl ⟨[eOp (opAt l k)],rfl,⟨rf,rf,le_int (by simp [opAt,hB]),le_int (by simp [opAt,hA]),rf,rf,DV.Le.of_eq (by simp [opAt]),le_int (by simp [opAt,hC]),rf,tv⟩,(fun x hx=>by rcases List.mem_singleton.1 hx with rfl; rfl),?_⟩
     refine .inr ⟨[eOp (opAt l k)],ELes.refl _,(by rw [by27]; simp [opsN_len]; omega),(by simp [opsN_len]; omega),?_⟩
     exact ⟨fun _=>⟨by omega,by omega⟩,k+1,⟨⟨rf,rfl,le_int (by omega),tv⟩,⟨⟨rfl,by simp [opsN]⟩,tv⟩,rfl,rfl⟩,hk1,(by show opsK l - (k+1)<opsK l - k; omega)⟩
   ·intro h5
    have h5':(pick l (6 * k+5) 13 == 5)=false:=h5
    have hB:¬ pick l (6 * k+5) 13=5:=by simpa using h5'
    clear h5 h5'
    refine ⟨fun _=>⟨by omega,by omega⟩,.inl ⟨_,fun _=>(pick_spec l (6 * k+2) 17 (by omega) (by omega)).ok,?_⟩⟩
    refine And.intro ?_ ?_
    ·intro h6
     have h6':(pick l (6 * k+2) 17 == 3)=true:=h6
     have hC:pick l (6 * k+2) 17=3:=by simpa using h6'
     clear h6 h6'
     refine .inl ⟨[eOp (opAt l k)],rfl,⟨rf,rf,le_int (by simp [opAt,hB]),le_int (by simp [opAt,hA]),rf,rf,DV.Le.of_eq (by simp [opAt]),le_int (by simp [opAt,hC]),rf,tv⟩,(fun x hx=>by rcases List.mem_singleton.1 hx with rfl; rfl),?_⟩
     refine .inr ⟨[eOp (opAt l k)],ELes.refl _,(by rw [by27]; simp [opsN_len]; omega),(by simp [opsN_len]; omega),?_⟩
     exact ⟨fun _=>⟨by omega,by omega⟩,k+1,⟨⟨rf,rfl,le_int (by omega),tv⟩,⟨⟨rfl,by simp [opsN]⟩,tv⟩,rfl,rfl⟩,hk1,(by show opsK l - (k+1)<opsK l - k; omega)⟩
    ·intro h6
     have h6':(pick l (6 * k+2) 17 == 3)=false:=h6
     have hC:¬ pick l (6 * k+2) 17=3:=by simpa using h6'
     clear h6 h6'
     refine .inl ⟨[eOp (opAt l k)],rfl,⟨rf,rf,le_int (by simp [opAt,hB]),le_int (by simp [opAt,hA]),rf,rf,DV.Le.of_eq (by simp [opAt]),le_int (by simp [opAt,hC]),rf,tv⟩,(fun x hx=>by rcases List.mem_singleton.1 hx with rfl; rfl),?_⟩
     refine .inr ⟨[eOp (opAt l k)],ELes.refl _,(by rw [by27]; simp [opsN_len]; omega),(by simp [opsN_len]; omega),?_⟩
     exact ⟨fun _=>⟨by omega,by omega⟩,k+1,⟨⟨rf,rfl,le_int (by omega),tv⟩,⟨⟨rfl,by simp [opsN]⟩,tv⟩,rfl,rfl⟩,hk1,(by show opsK l - (k+1)<opsK l - k; omega)⟩
  ·intro h4
   have h4':(pick l (6 * k+4) 11 == 5)=false:=h4
   have hA:¬ pick l (6 * k+4) 11=5:=by simpa using h4'
   clear h4 h4'
   refine ⟨fun _=>⟨by omega,by omega⟩,.inl ⟨_,fun _=>(pick_spec l (6 * k+5) 13 (by omega) (by omega)).ok,?_⟩⟩
   refine And.intro ?_ ?_
   ·intro h5
    have h5':(pick l (6 * k+5) 13 == 5)=true:=h5
    have hB:pick l (6 * k+5) 13=5:=by simpa using h5'
    clear h5 h5'
    refine ⟨fun _=>⟨by omega,by omega⟩,.inl ⟨_,fun _=>(pick_spec l (6 * k+2) 17 (by omega) (by omega)).ok,?_⟩⟩
    refine And.intro ?_ ?_
    ·intro h6
     have h6':(pick l (6 * k+2) 17 == 3)=true:=h6
     have hC:pick l (6 * k+2) 17=3:=by simpa using h6'
     clear h6 h6'
     refine .inl ⟨[eOp (opAt l k)],rfl,⟨rf,rf,le_int (by simp [opAt,hB]),le_int (by simp [opAt,hA]),rf,rf,DV.Le.of_eq (by simp [opAt]),le_int (by simp [opAt,hC]),rf,tv⟩,(fun x hx=>by rcases List.mem_singleton.1 hx with rfl; rfl),?_⟩
     refine .inr ⟨[eOp (opAt l k)],ELes.refl _,(by rw [by27]; simp [opsN_len]; omega),(by simp [opsN_len]; omega),?_⟩
     exact ⟨fun _=>⟨by omega,by omega⟩,k+1,⟨⟨rf,rfl,le_int (by omega),tv⟩,⟨⟨rfl,by simp [opsN]⟩,tv⟩,rfl,rfl⟩,hk1,(by show opsK l - (k+1)<opsK l - k; omega)⟩
    ·intro h6
     have h6':(pick l (6 * k+2) 17 == 3)=false:=h6
     have hC:¬ pick l (6 * k+2) 17=3:=by simpa using h6'
     clear h6 h6'
     refine .inl ⟨[eOp (opAt l k)],rfl,⟨rf,rf,le_int (by simp [opAt,hB]),le_int (by simp [opAt,hA]),rf,rf,DV.Le.of_eq (by simp [opAt]),le_int (by simp [opAt,hC]),rf,tv⟩,(fun x hx=>by rcases List.mem_singleton.1 hx with rfl; rfl),?_⟩
     refine .inr ⟨[eOp (opAt l k)],ELes.refl _,(by rw [by27]; simp [opsN_len]; omega),(by simp [opsN_len]; omega),?_⟩
     exact ⟨fun _=>⟨by omega,by omega⟩,k+1,⟨⟨rf,rfl,le_int (by omega),tv⟩,⟨⟨rfl,by simp [opsN]⟩,tv⟩,rfl,rfl⟩,hk1,(by show opsK l - (k+1)<opsK l - k; omega)⟩
   ·intro h5
    have h5':(pick l (6 * k+5) 13 == 5)=false:=h5
    have hB:¬ pick l (6 * k+5) 13=5:=by simpa using h5'
    clear h5 h5'
    refine ⟨fun _=>⟨by omega,by omega⟩,.inl ⟨_,fun _=>(pick_spec l (6 * k+2) 17 (by omega) (by omega)).ok,?_⟩⟩
    refine And.intro ?_ ?_
    ·intro h6
     have h6':(pick l (6 * k+2) 17 == 3)=true:=h6
     have hC:pick l (6 * k+2) 17=3:=by simpa using h6'
     clear h6 h6'
     refine .inl ⟨[eOp (opAt l k)],rfl,⟨rf,rf,le_int (by simp [opAt,hB]),le_int (by simp [opAt,hA]),rf,rf,DV.Le.of_eq (by simp [opAt]),le_int (by simp [opAt,hC]),rf,tv⟩,(fun x hx=>by rcases List.mem_singleton.1 hx with rfl; rfl),?_⟩
     refine .inr ⟨[eOp (opAt l k)],ELes.refl _,(by rw [by27]; simp [opsN_len]; omega),(by simp [opsN_len]; omega),?_⟩
     exact ⟨fun _=>⟨by omega,by omega⟩,k+1,⟨⟨rf,rfl,le_int (by omega),tv⟩,⟨⟨rfl,by simp [opsN]⟩,tv⟩,rfl,rfl⟩,hk1,(by show opsK l - (k+1)<opsK l - k; omega)⟩
    ·intro h6
     have h6':(pick l (6 * k+2) 17 == 3)=false:=h6
     have hC:¬ pick l (6 * k+2) 17=3:=by simpa using h6'
     clear h6 h6'
     refine .inl ⟨[eOp (opAt l k)],rfl,⟨rf,rf,le_int (by simp [opAt,hB]),le_int (by simp [opAt,hA]),rf,rf,DV.Le.of_eq (by simp [opAt]),le_int (by simp [opAt,hC]),rf,tv⟩,(fun x hx=>by rcases List.mem_singleton.1 hx with rfl; rfl),?_⟩
     refine .inr ⟨[eOp (opAt l k)],ELes.refl _,(by rw [by27]; simp [opsN_len]; omega),(by simp [opsN_len]; omega),?_⟩
     exact ⟨fun _=>⟨by omega,by omega⟩,k+1,⟨⟨rf,rfl,le_int (by omega),tv⟩,⟨⟨rfl,by simp [opsN]⟩,tv⟩,rfl,rfl⟩,hk1,(by show opsK l - (k+1)<opsK l - k; omega)⟩
 ·have he:k=opsK l:=by
   have:=bif_f h
   have h3:¬ (k<20∧6 * k<l.length):=fun ⟨h4,h5⟩=>this ⟨by simp; omega,by simp; omega⟩
   unfold opsK at *
   omega
  subst he
  refine ⟨DV.Le.of_eq ?_,tv⟩
  show DV.sl 9 (fzL ((opsN l (opsK l)).map eOp))=_
  rw [fzL_map (fun _=>rfl)]; rfl
end Go.Proofs.YtpjpdomkcabfcaaGreatDoor
namespace Go.Proofs.YtpjpdomkcabfcaaGreatDoor
open Go.TM
def cmpI (a b:Int):Int:=if a<b then -1 else if b<a then 1 else 0
def cmpK (a b:Ky):Int:=if cmpI a.1 b.1=0 then cmpI a.2 b.2 else cmpI a.1 b.1
def insAt:List Ky→Nat→List Ky
 | l,0=>l
 | l,j+1=>match l[j]?,l[j+1]? with
  | some a,some b=>if cmpK b a<0 then insAt ((l.set (j+1) a).set j b) j else l
  | _,_=>l
def isortN (l:List Ky):Nat→List Ky
 | 0=>l
 | k+1=>insAt (isortN l k) (k+1)
theorem insAt_len:∀(j:Nat) (l:List Ky),(insAt l j).length=l.length
 | 0,l=>rfl
 | j+1,l=>by
  simp only [insAt]
  split
  ·split
   ·rw [insAt_len j]; simp
   ·rfl
  ·rfl
theorem isortN_len (l:List Ky):∀k,(isortN l k).length=l.length
 | 0=>rfl
 | k+1=>by simp only [isortN]; rw [insAt_len,isortN_len l k]
variable [KObj]
theorem isNaN_spec (a:Int):PSpec Tryz.prog 107 [I a] [B false]:=by
 refine pspec_of tab_ok mixed (calls_snd _) (range_snd _) Tryz.func107 rfl (by kernel_rfl) rfl ?_
 exact ⟨DV.Le.of_eq (by simp),tv⟩
theorem cmpI_spec (a b:Int):PSpec Tryz.prog 64 [I a,I b] [I (cmpI a b)]:=by
 refine pspec_of tab_ok mixed (calls_snd _) (range_snd _) Tryz.func64 rfl (by kernel_rfl) rfl ?_
 refine .inl ⟨_,fun _=>(isNaN_spec a).ok,?_⟩
 refine .inl ⟨_,fun _=>(isNaN_spec b).ok,?_⟩
 refine ⟨(fun h=>by cases h),fun _=>⟨(fun h=>by cases h),fun _=>⟨fun h=>?_,fun h=>⟨fun h2=>?_,fun h2=>?_⟩⟩⟩⟩
 ·have h:a<b:=of_decide_eq_true h
  exact ⟨le_int (by simp [cmpI,h]),tv⟩
 ·have h:¬ a<b:=of_decide_eq_false h
  have h2:b<a:=of_decide_eq_true h2
  exact ⟨le_int (by simp [cmpI,h,h2]),tv⟩
 ·have h:¬ a<b:=of_decide_eq_false h
  have h2:¬ b<a:=of_decide_eq_false h2
  exact ⟨le_int (by simp [cmpI,h,h2]),tv⟩
theorem or_spec (a b:Int):PSpec Tryz.prog 63 [Ints [a,b]] [I (if a=0 then b else a)]:=by
 refine pspec_of tab_ok mixed (calls_snd _) (range_snd _) Tryz.func63 rfl (by kernel_rfl) rfl ?_
 refine ⟨Nat,fun j=>⟨0,[(0,.dv (Ints [a,b])),(3,.dv (I 0)),(6,.dv (Ints [a,b])),(7,.dv (I 2)),(8,.dv (I j))],[]⟩,fun j=>j≤2∧(1≤j→a=0)∧(2≤j→b=0),fun j=>2 - j,0,fun _=>rfl,⟨⟨rf,rf,rf,rf,rf,tv⟩,tv,rfl,rfl⟩,⟨by omega,by omega,by omega⟩,?_⟩
 rintro j ⟨h1,h2,h3⟩
 refine ⟨fun h=>?_,fun h=>?_⟩
 ·have h:(j:Int)<2:=of_decide_eq_true h
  obtain rfl | rfl:j=0 ∨ j=1:=by omega
  ·refine ⟨I a,fun _=>⟨by simp,rfl⟩,fun h=>?_,fun h=>⟨fun _=>⟨by omega,by omega⟩,1,⟨⟨rf,rf,rf,rf,le_int (by omega),tv⟩,tv,rfl,rfl⟩,⟨by omega,fun _=>by simpa using h,by omega⟩,by decide⟩⟩
   have h:¬ a=0:=by simpa using h
   exact ⟨le_int (by simp [h]),tv⟩
  ·refine ⟨I b,fun _=>⟨by simp,rfl⟩,fun h=>?_,fun h=>⟨fun _=>⟨by omega,by omega⟩,2,⟨⟨rf,rf,rf,rf,le_int (by omega),tv⟩,tv,rfl,rfl⟩,⟨by omega,fun _=>h2 (by omega),fun _=>by simpa using h⟩,by decide⟩⟩
   have ha:=h2 (by omega)
   exact ⟨le_int (by simp [ha]),tv⟩
 ·have h:¬ (j:Int)<2:=of_decide_eq_false h
  have ha:=h2 (by omega)
  have hb:=h3 (by omega)
  exact ⟨le_int (by simp [ha,hb]),tv⟩
theorem cmpK_spec (a b:Ky):PSpec Tryz.prog 35 [eKy a,eKy b] [I (cmpK a b)]:=by
 refine pspec_of tab_ok mixed (calls_snd _) (range_snd _) Tryz.func35 rfl (by kernel_rfl) rfl ?_
 refine .inl ⟨_,fun _=>(cmpI_spec a.1 b.1).ok,?_⟩
 refine .inl ⟨_,fun _=>(cmpI_spec a.2 b.2).ok,?_⟩
 refine .inl ⟨[I (cmpI a.1 b.1),I (cmpI a.2 b.2)],rfl,⟨rf,rf,tv⟩,(by simp [DV.cells]; rfl),?_⟩
 refine .inl ⟨_,fun _=>(or_spec (cmpI a.1 b.1) (cmpI a.2 b.2)).ok,?_⟩
 exact ⟨by kernel_rfl,rf,tv⟩
structure InI2 where
 j:Nat
 c:List Ky
set_option maxRecDepth 100000
set_option maxHeartbeats 4000000 in
theorem insSort_spec (l:List Ky) (hl:l.length≤1000):CSpec Tryz.prog 97 [.own 0 0 0 [],.dv (I 0),.dv (I l.length),.dv (.fn 35 [])] 1 [(0,.tree 0 0 (.osl 2 (l.map eKy)))] 0 [] [(0,.tree 0 0 (.osl 2 ((isortN l (l.length - 1)).map eKy)))]:=by
 refine cspec_of tab_ok mixed (calls_snd _) (range_snd _) Tryz.func97 rfl rfl (by kernel_rfl) ?_
 refine ⟨fun _=>⟨by omega,by omega⟩,?_⟩
 refine ⟨Nat,fun k=>⟨1,[(0,.own 0 0 0 []),(1,.dv (I 0)),(2,.dv (I l.length)),(3,.dv (.fn 35 [])),(8,.dv (I (1+k)))],[(0,.tree 0 0 (.osl 2 ((isortN l k).map eKy)))]⟩,fun k=>k≤l.length - 1,fun k=>l.length - k,0,fun _=>rfl,⟨⟨rfl,rf,rf,rf,rf,tv⟩,⟨⟨rfl,rfl⟩,tv⟩,rfl,rfl⟩,by omega,?_⟩
 intro k hk
 refine ⟨fun h=>?_,fun h=>?_⟩
 ·have hkl:1+k<l.length:=by
   have:(1+(k:Int))<l.length:=of_decide_eq_true h
   omega
  clear h
  have hcl:=isortN_len l k
  refine ⟨InI2,fun z=>⟨1,[(0,.own 0 0 0 []),(1,.dv (I 0)),(2,.dv (I l.length)),(3,.dv (.fn 35 [])),(8,.dv (I (1+k))),(9,.dv (I z.j))],[(0,.tree 0 0 (.osl 2 (z.c.map eKy)))]⟩,fun z=>z.j≤k+1∧z.c.length=l.length∧insAt z.c z.j=isortN l (k+1),fun z=>z.j,⟨k+1,isortN l k⟩,fun _=>rfl,⟨⟨rfl,rf,rf,rf,rf,le_int (by simp; omega),tv⟩,⟨⟨rfl,rfl⟩,tv⟩,rfl,rfl⟩,⟨by simp,hcl,rfl⟩,?_⟩
  rintro ⟨j,c⟩ ⟨hj1,hj2,hj3⟩
  dsimp only at hj1 hj2 hj3
  cases j with
  | zero =>
   refine ⟨id,id,(fun h=>by cases h),id,eKy (0,0),(fun h=>by cases h),?_⟩
   refine ⟨id,(fun h=>by cases h),id,id,(fun h=>by cases h),id,eKy (0,0),(fun h=>by cases h),?_⟩
   refine ⟨id,id,id,.inl ⟨[I 0],(fun h=>by cases h),.inl ⟨id,fun _ h=>bw_t h,by kernel_rfl,(fun h=>by cases h),fun _=>?_⟩⟩⟩
   exact ⟨fun _=>⟨by omega,by omega⟩,k+1,⟨⟨rfl,rf,rf,rf,le_int (by omega),tv⟩,⟨⟨rfl,by rw [←hj3]; rfl⟩,tv⟩,rfl,rfl⟩,by omega,by dsimp only; omega⟩
  | succ j =>
   obtain ⟨b,hb⟩:∃b,c[j+1]?=some b:=⟨_,List.getElem?_eq_getElem (by omega)⟩
   obtain ⟨a,ha⟩:∃a,c[j]?=some a:=⟨_,List.getElem?_eq_getElem (by omega)⟩
   have e1:(((j+1:Nat):Int)).toNat=j+1:=by omega
   have e2:(((j+1:Nat):Int) - 1).toNat=j:=by omega
   refine ⟨id,id,fun _=>⟨by dsimp only; omega,by dsimp only; simp; omega⟩,id,eKy b,fun _=>by dsimp only; rw [e1,List.getElem?_map,hb]; rfl,?_⟩
   refine ⟨id,fun _=>⟨by dsimp only; omega,by dsimp only; omega⟩,id,id,fun _=>⟨by dsimp only; omega,by dsimp only; simp; omega⟩,id,eKy a,fun _=>by dsimp only; rw [e2,List.getElem?_map,ha]; rfl,?_⟩
   refine ⟨id,id,id,.inl ⟨_,fun _=>(cmpK_spec b a).ok,.inl ⟨id,fun _ h=>bw_t h,by kernel_rfl,fun h=>?_,fun h=>?_⟩⟩⟩
   ·obtain ⟨-,h2⟩:=bif_t h
    have hlt:cmpK b a<0:=of_decide_eq_true h2
    clear h h2
    have hins:insAt c (j+1)=insAt ((c.set (j+1) a).set j b) j:=by simp only [insAt,ha,hb,if_pos hlt]
    have hm2:(c.set (j+1) a)[j]?=some a:=by rw [List.getElem?_set,if_neg (by omega),ha]
    have har:true=true→-9223372036854775808≤(((j+1:Nat):Int)) - 1∧(((j+1:Nat):Int)) - 1≤9223372036854775807:=fun _=>⟨by omega,by omega⟩
    refine ⟨har,har,fun _=>⟨by dsimp only; omega,by dsimp only; simp; omega⟩,eKy a,fun _=>by dsimp only; rw [e2,List.getElem?_map,ha]; rfl,?_⟩
    refine ⟨fun _=>⟨by dsimp only; omega,by dsimp only; simp; omega⟩,eKy b,fun _=>by dsimp only; rw [e1,List.getElem?_map,hb]; rfl,?_⟩
    refine ⟨fun _=>⟨by dsimp only; omega,by dsimp only; simp; omega⟩,[I a.1,I a.2],⟨rf,rf,tv⟩,eKy b,(by dsimp only; rw [e1,List.getElem?_map,hb]; rfl),?_⟩
    refine ⟨fun _=>⟨by dsimp only; omega,by dsimp only; simp; omega⟩,[I b.1,I b.2],⟨rf,rf,tv⟩,eKy a,?_,by kernel_rfl,?_⟩
    ·show ((c.map eKy).set (((j+1:Nat):Int)).toNat (eKy a))[(((j+1:Nat):Int) - 1).toNat]?=some (eKy a)
     rw [e1,e2,←List.map_set,List.getElem?_map,hm2]; rfl
    refine ⟨fun _=>⟨by dsimp only; omega,by dsimp only; omega⟩,⟨j,(c.set (j+1) a).set j b⟩,⟨⟨rfl,rf,rf,rf,rf,le_int (by dsimp only; omega),tv⟩,⟨⟨rfl,?_⟩,tv⟩,rfl,rfl⟩,⟨by dsimp only; omega,by simp [hj2],by dsimp only; rw [←hins]; exact hj3⟩,by dsimp only; omega⟩
    show DV.osl 2 (((c.map eKy).set (((j+1:Nat):Int)).toNat (eKy a)).set (((j+1:Nat):Int) - 1).toNat (eKy b))=.osl 2 (((c.set (j+1) a).set j b).map eKy)
    rw [e1,e2,List.map_set,List.map_set]
   ·have hlt:¬ cmpK b a<0:=fun hlt=>by
     have:=bif_f h
     exact this ⟨by first | simp | (simp; omega),decide_eq_true hlt⟩
    have hins:insAt c (j+1)=c:=by simp only [insAt,ha,hb,if_neg hlt]
    exact ⟨fun _=>⟨by omega,by omega⟩,k+1,⟨⟨rfl,rf,rf,rf,le_int (by omega),tv⟩,⟨⟨rfl,by rw [←hj3,hins]⟩,tv⟩,rfl,rfl⟩,by omega,by dsimp only; omega⟩
 ·have hke:k=l.length - 1:=by
   have:¬ (1+(k:Int))<l.length:=of_decide_eq_false h
   omega
  subst hke
  exact ⟨_,_,⟨rfl,rfl⟩,by kernel_rfl,tv,⟨rfl,rfl⟩,tv⟩
def lens:List Int:=[0,1,2,2,3,3,3,3,4,4,4,4,4]
theorem upto12 {m:Nat} (h:m≤12):m=0 ∨ m=1 ∨ m=2 ∨ m=3 ∨ m=4 ∨ m=5 ∨ m=6 ∨ m=7 ∨ m=8 ∨ m=9 ∨ m=10 ∨ m=11 ∨ m=12:=by omega
set_option maxHeartbeats 4000000 in
theorem len64_spec (m:Nat) (hm:m≤12):PSpec Tryz.prog 106 [.int .u64 m] [I (lens.getD m 0)]:=by
 refine pspec_of tab_ok mixed (calls_snd _) (range_snd _) Tryz.func106 rfl (by kernel_rfl) rfl ?_
 obtain rfl | rfl | rfl | rfl | rfl | rfl | rfl | rfl | rfl | rfl | rfl | rfl | rfl:=upto12 hm
 all_goals
  refine ⟨(fun h=>by cases h),fun _=>⟨(fun h=>by cases h),fun _=>⟨(fun h=>by cases h),fun _=>?_⟩⟩⟩
  exact ⟨_,fun _=>⟨by decide,rfl⟩,fun _=>⟨by decide,by decide⟩,le_int (by decide),tv⟩
theorem len_spec (m:Nat) (hm:m≤12):PSpec Tryz.prog 62 [.int .u64 m] [I (lens.getD m 0)]:=by
 refine pspec_of tab_ok mixed (calls_snd _) (range_snd _) Tryz.func62 rfl (by kernel_rfl) rfl ?_
 exact ⟨(fun h=>by cases h),fun _=>.inl ⟨_,fun _=>(len64_spec m hm).ok,rf,tv⟩⟩
set_option maxHeartbeats 4000000 in
theorem pdq_spec (l:List Ky) (hl:l.length≤12) (q:Int):CSpec Tryz.prog 61 [.own 0 0 0 [],.dv (I 0),.dv (I l.length),.dv (I q),.dv (.fn 35 [])] 1 [(0,.tree 0 0 (.osl 2 (l.map eKy)))] 0 [] [(0,.tree 0 0 (.osl 2 ((isortN l (l.length - 1)).map eKy)))]:=by
 refine cspec_of tab_ok mixed (calls_snd _) (range_snd _) Tryz.func61 rfl rfl (by kernel_rfl) ?_
 refine ⟨Unit,fun _=>⟨1,[(0,.own 0 0 0 []),(1,.dv (I 0)),(2,.dv (I l.length)),(4,.dv (.fn 35 []))],[(0,.tree 0 0 (.osl 2 (l.map eKy)))]⟩,fun _=>True,fun _=>0,(),fun _=>rfl,⟨⟨rfl,rf,rf,rf,tv⟩,⟨⟨rfl,rfl⟩,tv⟩,rfl,rfl⟩,tv,?_⟩
 intro _ _
 refine ⟨fun _=>⟨by omega,by omega⟩,fun _=>?_,fun h=>?_⟩
 ·refine .inr ⟨[0],[.own 0 0 0 [],.dv (I 0),.dv (I l.length),.dv (.fn 35 [])],[(0,.tree 0 0 (.osl 2 (l.map eKy)))],0,_,_,insSort_spec l (by omega),by kernel_rfl,by kernel_rfl,⟨rfl,rf,rf,rf,tv⟩,⟨⟨rfl,rfl⟩,tv⟩,?_⟩
  exact ⟨_,_,⟨rfl,rfl⟩,by kernel_rfl,tv,⟨rfl,rfl⟩,tv⟩
 ·exfalso
  have h:¬ (l.length:Int) - 0≤12:=of_decide_eq_false h
  omega
set_option maxHeartbeats 4000000 in
theorem sort_spec (l:List Ky) (hl:l.length≤12):CSpec Tryz.prog 34 [.own 0 0 0 [],.dv (.fn 35 [])] 1 [(0,.tree 0 0 (.osl 2 (l.map eKy)))] 0 [] [(0,.tree 0 0 (.osl 2 ((isortN l (l.length - 1)).map eKy)))]:=by
 refine cspec_of tab_ok mixed (calls_snd _) (range_snd _) Tryz.func34 rfl rfl (by kernel_rfl) ?_
 have hwr:IntKind.u64.wrap ((l.map eKy).length:Int)=(l.length:Int):=by
  rw [List.length_map]
  obtain h | h | h | h | h | h | h | h | h | h | h | h | h:=upto12 hl <;> rw [h] <;> decide
 have hok:CallOk Tryz.prog 62 [.int .u64 (IntKind.u64.wrap ((l.map eKy).length:Int))] [I (lens.getD l.length 0)]:=by
  rw [hwr]; exact (len_spec l.length hl).ok
 refine .inl ⟨_,fun _=>hok,?_⟩
 have hp:=pdq_spec l hl (lens.getD l.length 0)
 refine .inr ⟨[0],[.own 0 0 0 [],.dv (I 0),.dv (I l.length),.dv (I (lens.getD l.length 0)),.dv (.fn 35 [])],[(0,.tree 0 0 (.osl 2 (l.map eKy)))],0,_,_,hp,by kernel_rfl,by kernel_rfl,⟨rfl,rf,le_int (by simp),rf,rf,tv⟩,⟨⟨rfl,rfl⟩,tv⟩,?_⟩
 exact ⟨_,_,⟨rfl,rfl⟩,by kernel_rfl,tv,⟨rfl,rfl⟩,tv⟩
end Go.Proofs.YtpjpdomkcabfcaaGreatDoor
namespace Go.Proofs.YtpjpdomkcabfcaaGreatDoor
open Go.TM
variable [KObj]
def odel:OM→Ky→OM
 | [],_=>[]
 | p::r,k=>if p.1=k then r else p::odel r k
theorem mdel_ky (k:Ky):∀m:OM,mdel (m.map eEnt) (eKy k)=(odel m k).map eEnt
 | []=>rfl
 | p::r=>by
  simp only [List.map_cons,eEnt,mdel,keq_ky,odel]
  by_cases h:p.1=k
  ·simp [h,eEnt]
  ·simp only [h,decide_false,cond_false,if_false,List.map_cons]
   have:=mdel_ky k r
   rw [this]
   rfl
theorem odel_none {k:Ky}:∀{m:OM},oget m k=none→odel m k=m
 | [],_=>rfl
 | p::r,h=>by
  simp only [oget] at h
  simp only [odel]
  by_cases e:p.1=k
  ·simp [e] at h
  ·simp only [e,if_false] at h ⊢
   rw [odel_none h]
set_option maxRecDepth 100000
set_option maxHeartbeats 4000000 in
theorem remove_spec (its:List Item) (m:OM) (k:Ky):CSpec Tryz.prog 24 [.ptr 0 0,ofD (eKy k)] 2 (stK its m) 0 [ofD (eOb ((oget m k).getD Ob.zero)),.dv (I (if (oget m k).isSome then 0 else 7))] (stK its (odel m k)):=by
 refine cspec_of tab_ok mixed (calls_snd _) (range_snd _) Tryz.func24 rfl rfl (by kernel_rfl) ?_
 refine ⟨keyTI,eKy k,rfl,rfl,eOb ((oget m k).getD Ob.zero),(oget m k).isSome,fun _=>mget_b m k,mget_z,rfl,?_⟩
 refine ⟨by kernel_rfl,fun h=>?_,fun h=>?_⟩
 ·have e:oget m k=none:=by
   cases hq:oget m k with
   | none=>rfl
   | some x=>simp [hq] at h
  rw [odel_none e,e]
  exact ⟨_,_,⟨rfl,rfl⟩,by kernel_rfl,⟨⟨rf,rf,rf,rf,tv⟩,rf,tv⟩,⟨rf,rf,rf,rf,rfl,tv⟩,⟨rfl,rfl⟩,tv⟩
 ·have e:(oget m k).isSome=true:=by cases hq:(oget m k).isSome <;> simp_all
  refine ⟨keyTI,eKy k,rfl,rfl,by kernel_rfl,?_⟩
  refine ⟨_,_,⟨rfl,rfl⟩,by kernel_rfl,⟨⟨rf,rf,rf,rf,tv⟩,?_,tv⟩,⟨rf,rf,rf,rf,rfl,tv⟩,⟨rfl,?_⟩,tv⟩
  ·rw [e]; exact rf
  ·rw [←mdel_ky]
end Go.Proofs.YtpjpdomkcabfcaaGreatDoor
namespace Go.Proofs.YtpjpdomkcabfcaaGreatDoor
open Go.TM
def kle (a b:Ky):Prop:=a.1<b.1 ∨ a.1=b.1∧a.2≤b.2
def klt (a b:Ky):Prop:=a.1<b.1 ∨ a.1=b.1∧a.2<b.2
theorem cmpI_neg {a b:Int}:cmpI a b<0 ↔ a<b:=by
 unfold cmpI
 split
 ·simp [*]
 ·split <;> simp <;> omega
theorem cmpI_zero {a b:Int}:cmpI a b=0 ↔ a=b:=by
 unfold cmpI
 split
 ·simp; omega
 ·split <;> simp <;> omega
theorem cmpK_neg {a b:Ky}:cmpK a b<0 ↔ klt a b:=by
 unfold cmpK klt
 by_cases h:cmpI a.1 b.1=0
 ·rw [if_pos h,cmpI_neg]
  have:=cmpI_zero.1 h
  omega
 ·rw [if_neg h,cmpI_neg]
  have:¬ a.1=b.1:=fun e=>h (cmpI_zero.2 e)
  omega
theorem swap_form {l:List Ky} {j:Nat} {a b:Ky} (ha:l[j]?=some a) (hb:l[j+1]?=some b):∃p q,l=p++a::b::q∧p.length=j∧(l.set (j+1) a).set j b=p++b::a::q:=by
 have hj:j+1<l.length:=(List.getElem?_eq_some_iff.1 hb).1
 refine ⟨l.take j,l.drop (j+2),?_,by simp; omega,?_⟩
 ·have h1:=List.drop_eq_getElem_cons (show j<l.length by omega)
  have h2:=List.drop_eq_getElem_cons hj
  rw [List.getElem?_eq_getElem (by omega)] at ha hb
  injection ha with ha; injection hb with hb
  rw [ha] at h1; rw [hb] at h2
  rw [show j+2=j+1+1 from rfl,←h2,←h1,List.take_append_drop]
 ·have h1:=List.drop_eq_getElem_cons (show j<l.length by omega)
  have h2:=List.drop_eq_getElem_cons hj
  rw [List.getElem?_eq_getElem (by omega)] at ha hb
  injection ha with ha; injection hb with hb
  rw [ha] at h1; rw [hb] at h2
  have e:l=l.take j++a::b::l.drop (j+2):=by rw [show j+2=j+1+1 from rfl,←h2,←h1,List.take_append_drop]
  generalize hp:l.take j=p at *
  generalize hq:l.drop (j+2)=q at *
  have hpl:p.length=j:=by rw [←hp]; simp; omega
  rw [e,List.set_append_right _ _ (by omega),hpl,show j+1 - j=1 by omega,List.set_append_right _ _ (by omega),hpl,Nat.sub_self]
  rfl
theorem insAt_perm:∀(j:Nat) (l:List Ky),(insAt l j).Perm l
 | 0,l=>.refl _
 | j+1,l=>by
  simp only [insAt]
  split
  ·rename_i a b ha hb
   split
   ·obtain ⟨p,q,h1,h2,h3⟩:=swap_form ha hb
    refine (insAt_perm j _).trans ?_
    rw [h3]
    conv=>rhs; rw [h1]
    exact List.Perm.append_left p (List.Perm.swap a b q)
   ·exact .refl _
  ·exact .refl _
theorem isortN_perm (l:List Ky):∀k,(isortN l k).Perm l
 | 0=>.refl _
 | k+1=>(insAt_perm _ _).trans (isortN_perm l k)
abbrev at' (l:List Ky) (i:Nat):Ky:=l.getD i (0,0)
theorem at_set {l:List Ky} {k i:Nat} {x:Ky} (hk:k<l.length):at' (l.set k x) i=if i=k then x else at' l i:=by
 unfold at'
 rw [List.getD_eq_getElem?_getD,List.getD_eq_getElem?_getD,List.getElem?_set]
 by_cases h:k=i
 ·subst h; simp [hk]
 ·rw [if_neg h,if_neg (fun e=>h e.symm)]
theorem at_some {l:List Ky} {i:Nat} {a:Ky} (h:l[i]?=some a):at' l i=a:=by
 unfold at'; rw [List.getD_eq_getElem?_getD,h]; rfl
structure Near' (l:List Ky) (j m:Nat):Prop where
 adj:∀i,i+1<m→i+1 ≠ j→kle (at' l i) (at' l (i+1))
 skip:∀i,i+1=j→j+1<m→kle (at' l i) (at' l (j+1))
theorem insAt_sorted:∀(j:Nat) (l:List Ky) (m:Nat),j<m→m≤l.length→Near' l j m→∀i,i+1<m→kle (at' (insAt l j) i) (at' (insAt l j) (i+1))
 | 0,l,m,_,_,h=>fun i hi=>h.adj i hi (by omega)
 | j+1,l,m,hj,hm,h=>by
  obtain ⟨a,ha⟩:∃a,l[j]?=some a:=⟨_,List.getElem?_eq_getElem (by omega)⟩
  obtain ⟨b,hb⟩:∃b,l[j+1]?=some b:=⟨_,List.getElem?_eq_getElem (by omega)⟩
  have hA:=at_some ha
  have hB:=at_some hb
  by_cases hlt:cmpK b a<0
  ·have e:insAt l (j+1)=insAt ((l.set (j+1) a).set j b) j:=by simp only [insAt,ha,hb,if_pos hlt]
   rw [e]
   have hl1:j+1<l.length:=by omega
   have hba:=cmpK_neg.1 hlt
   have hat:∀i,at' ((l.set (j+1) a).set j b) i=if i=j then b else if i=j+1 then a else at' l i:=fun i=>by
    rw [at_set (by simp; omega),at_set hl1]
   refine insAt_sorted j _ m (by omega) (by simpa using hm) ⟨fun i hi hne=>?_,fun i hij hjm=>?_⟩
   ·rw [hat,hat]
    by_cases h1:i=j
    ·subst h1
     rw [if_pos rfl,if_neg (by omega),if_pos rfl]
     unfold kle; unfold klt at hba; omega
    ·by_cases h2:i=j+1
     ·subst h2
      have:=h.skip j rfl hi
      rw [hA] at this
      rw [if_neg (by omega),if_pos rfl,if_neg (by omega),if_neg (by omega)]
      exact this
     ·rw [if_neg h1,if_neg h2,if_neg hne,if_neg (by omega)]
      exact h.adj i hi (by omega)
   ·rw [hat,hat,if_neg (by omega),if_neg (by omega),if_neg (by omega),if_pos rfl]
    have:=h.adj i (by omega) (by omega)
    rw [hij,hA] at this
    exact this
  ·have e:insAt l (j+1)=l:=by simp only [insAt,ha,hb,if_neg hlt]
   rw [e]
   have hba:¬ klt b a:=fun hh=>hlt (cmpK_neg.2 hh)
   intro i hi
   by_cases hij:i=j
   ·subst hij; rw [hA,hB]; unfold kle; unfold klt at hba; omega
   ·exact h.adj i hi (by omega)
theorem isortN_sorted (l:List Ky):∀k,k<l.length→∀i,i+1<k+1→kle (at' (isortN l k) i) (at' (isortN l k) (i+1))
 | 0,_,i,hi=>by omega
 | k+1,hk,i,hi=>by
  have ih:=isortN_sorted l k (by omega)
  refine insAt_sorted (k+1) (isortN l k) (k+2) (by omega) (by rw [isortN_len]; omega) ⟨fun i hi hne=>ih i (by omega),fun i hij h=>by omega⟩ i hi
theorem klt_of {a b:Ky} (h:kle a b) (hne:a ≠ b):klt a b:=by
 obtain ⟨a1,a2⟩:=a
 obtain ⟨b1,b2⟩:=b
 unfold kle at h
 unfold klt
 simp only [ne_eq,Prod.mk.injEq] at *
 omega
theorem klt_tr {a b c:Ky} (h1:klt a b) (h2:klt b c):klt a c:=by unfold klt at *; omega
theorem klt_irr {a:Ky}:¬ klt a a:=by unfold klt; omega
theorem pair_of:∀{l:List Ky},(∀i,i+1<l.length→kle (at' l i) (at' l (i+1)))→l.Nodup→l.Pairwise klt
 | [],_,_=>.nil
 | [x],_,_=>by simp
 | x::y::l,h,hn=>by
  have hn2:=(List.nodup_cons.1 hn)
  have ih:=pair_of (l:=y::l) (fun i hi=>h (i+1) (by simpa using hi)) hn2.2
  have hxy:klt x y:=klt_of (h 0 (by simp)) (fun e=>hn2.1 (by rw [e]; simp))
  refine List.pairwise_cons.2 ⟨fun z hz=>?_,ih⟩
  rcases List.mem_cons.1 hz with rfl | hz
  ·exact hxy
  ·exact klt_tr hxy ((List.pairwise_cons.1 ih).1 z hz)
theorem sorted_ext:∀{a b:List Ky},a.Pairwise klt→b.Pairwise klt→(∀x,x∈a ↔ x∈b)→a=b
 | [],[],_,_,_=>rfl
 | [],y::b,_,_,h=>by have:=(h y).2 (by simp); simp at this
 | x::a,[],_,_,h=>by have:=(h x).1 (by simp); simp at this
 | x::a,y::b,ha,hb,h=>by
  rw [List.pairwise_cons] at ha hb
  have hxy:x=y:=by
   have h1:=(h x).1 (by simp)
   have h2:=(h y).2 (by simp)
   rcases List.mem_cons.1 h1 with h1 | h1
   ·exact h1
   ·rcases List.mem_cons.1 h2 with h2 | h2
    ·exact h2.symm
    ·exact absurd (klt_tr (hb.1 x h1) (ha.1 y h2)) klt_irr
  subst hxy
  rw [sorted_ext ha.2 hb.2 fun z=>?_]
  constructor
  ·intro hz
   rcases List.mem_cons.1 ((h z).1 (List.mem_cons_of_mem _ hz)) with e | h1
   ·have:=ha.1 z hz; rw [e] at this; exact absurd this klt_irr
   ·exact h1
  ·intro hz
   rcases List.mem_cons.1 ((h z).2 (List.mem_cons_of_mem _ hz)) with e | h1
   ·have:=hb.1 z hz; rw [e] at this; exact absurd this klt_irr
   ·exact h1
theorem isort_pair {l:List Ky} (hn:l.Nodup):(isortN l (l.length - 1)).Pairwise klt:=by
 have hp:=isortN_perm l (l.length - 1)
 refine pair_of (fun i hi=>?_) (hp.nodup_iff.2 hn)
 rw [isortN_len] at hi
 exact isortN_sorted l (l.length - 1) (by omega) i (by omega)
theorem isort_perm {l r:List Ky} (h:l.Perm r) (hn:r.Nodup):isortN l (l.length - 1)=isortN r (r.length - 1) :=
 sorted_ext (isort_pair (h.nodup_iff.2 hn)) (isort_pair hn) fun x=>by rw [(isortN_perm l _).mem_iff,(isortN_perm r _).mem_iff,h.mem_iff]
def NdK (m:OM):Prop:=(m.map Prod.fst).Nodup
theorem oget_mem {k:Ky} {x:Ob}:∀{m:OM},oget m k=some x→(k,x)∈m
 | [],h=>by cases h
 | p::r,h=>by
  simp only [oget] at h
  split at h
  ·rename_i e
   injection h with h
   subst h; subst e
   simp
  ·exact List.mem_cons_of_mem _ (oget_mem h)
theorem mem_oget {k:Ky} {x:Ob}:∀{m:OM},NdK m→(k,x)∈m→oget m k=some x
 | [],_,h=>by simp at h
 | p::r,hn,h=>by
  have hn2:=List.nodup_cons.1 hn
  simp only [oget]
  rcases List.mem_cons.1 h with rfl | h
  ·simp
  ·rw [if_neg (fun e=>hn2.1 (List.mem_map.2 ⟨_,h,e.symm⟩))]
   exact mem_oget hn2.2 h
theorem oput_keys {k:Ky} {x:Ob}:∀{m:OM},∀q,q∈(oput m k x).map Prod.fst ↔ q=k ∨ q∈m.map Prod.fst
 | [],q=>by simp [oput]
 | p::r,q=>by
  simp only [oput]
  by_cases e:p.1=k
  ·simp [e]
  ·simp only [e,if_false,List.map_cons,List.mem_cons]
   rw [oput_keys (m:=r) q]
   constructor
   ·rintro (h | h | h)
    ·exact .inr (.inl h)
    ·exact .inl h
    ·exact .inr (.inr h)
   ·rintro (h | h | h)
    ·exact .inr (.inl h)
    ·exact .inl h
    ·exact .inr (.inr h)
theorem oput_nd {k:Ky} {x:Ob}:∀{m:OM},NdK m→NdK (oput m k x)
 | [],_=>by simp [oput,NdK]
 | p::r,hn=>by
  have hn2:=List.nodup_cons.1 hn
  simp only [oput]
  by_cases e:p.1=k
  ·rw [if_pos e]
   refine List.nodup_cons.2 ⟨?_,hn2.2⟩
   rw [←e]; exact hn2.1
  ·rw [if_neg e]
   refine List.nodup_cons.2 ⟨fun hm=>?_,oput_nd hn2.2⟩
   rcases (oput_keys _).1 hm with h | h
   ·exact e h
   ·exact hn2.1 h
theorem odel_sub {k:Ky}:∀{m:OM},(odel m k).Sublist m
 | []=>.slnil
 | p::r=>by
  simp only [odel]
  split
  ·exact List.sublist_cons_self p r
  ·exact odel_sub.cons_cons p
theorem odel_nd {k:Ky} {m:OM} (h:NdK m):NdK (odel m k):=h.sublist (odel_sub.map _)
def ownK (m:OM) (ow:Int):List Ky:=(m.filter fun p=>p.2.owner == ow).map Prod.fst
def ofL (m:OM) (ow:Int):List Ky:=isortN (ownK m ow) ((ownK m ow).length - 1)
theorem ownK_nd {m:OM} (h:NdK m) (ow:Int):(ownK m ow).Nodup:=h.sublist ((List.filter_sublist).map _)
theorem ownK_len (m:OM) (ow:Int):(ownK m ow).length≤m.length:=by
 unfold ownK; rw [List.length_map]; exact List.length_filter_le _ _
theorem mem_ofL {m:OM} (h:NdK m) {ow:Int} {k:Ky}:k∈ofL m ow ↔ ∃x,oget m k=some x∧x.owner=ow:=by
 unfold ofL
 rw [(isortN_perm _ _).mem_iff]
 unfold ownK
 simp only [List.mem_map,List.mem_filter]
 constructor
 ·rintro ⟨⟨k',x⟩,⟨h1,h2⟩,rfl⟩
  exact ⟨x,mem_oget h h1,by simpa using h2⟩
 ·rintro ⟨x,h1,h2⟩
  exact ⟨(k,x),⟨oget_mem h1,by simpa using h2⟩,rfl⟩
theorem erase_perm {α:Type}:∀{l:List α} {i:Nat} {x:α},l[i]?=some x→l.Perm (x::l.eraseIdx i)
 | [],i,x,h=>by simp at h
 | y::l,0,x,h=>by simp at h; subst h; simp
 | y::l,i+1,x,h=>by
  simp only [List.getElem?_cons_succ] at h
  simp only [List.eraseIdx_cons_succ]
  exact ((erase_perm h).cons y).trans (List.Perm.swap x y _)
end Go.Proofs.YtpjpdomkcabfcaaGreatDoor
namespace Go.Proofs.YtpjpdomkcabfcaaGreatDoor
open Go.TM
variable [KObj]
theorem ownK_perm {m r:OM} {ow:Int} (h:m.Perm r):(ownK m ow).Perm (ownK r ow):=(h.filter _).map _
theorem ownK_own {k:Ky} {x:Ob} {r:OM} {ow:Int} (h:x.owner=ow):ownK ((k,x)::r) ow=k::ownK r ow:=by simp [ownK,h]
theorem ownK_not {k:Ky} {x:Ob} {r:OM} {ow:Int} (h:¬ x.owner=ow):ownK ((k,x)::r) ow=ownK r ow:=by simp [ownK,h]
theorem erase_map {α β:Type} {f:α→β}:∀(l:List α) (i:Nat),(l.map f).eraseIdx i=(l.eraseIdx i).map f
 | [],_=>rfl
 | _::_,0=>rfl
 | x::l,i+1=>by simp only [List.map_cons,List.eraseIdx_cons_succ]; rw [erase_map l i]
structure OfSt where
 left:OM
 ids:List Ky
theorem by29:(nth tab (nth tab 29).elem).bytes=16:=rfl
set_option maxRecDepth 100000
set_option maxHeartbeats 4000000 in
theorem of_spec (its:List Item) (m:OM) (ow:Int) (hn:NdK m) (hl:m.length≤12):CSpec Tryz.prog 11 [.ptr 0 0,.dv (I ow)] 2 (stK its m) 2 [.own 3 0 0 []] (stK its m++[(3,.tree 0 0 (.osl 2 ((ofL m ow).map eKy)))]):=by
 refine cspec_of tab_ok mixed (calls_snd _) (range_snd _) Tryz.func11 rfl rfl (by kernel_rfl) ?_
 refine ⟨OfSt,fun z=>⟨4,[(0,.ptr 0 0),(1,.dv (I ow)),(5,.own 3 0 0 []),(12,.ptr 2 0)],[(0,.cells (stC its)),(1,.held),(2,.itr 1 [] (.omap pairK (m.map eEnt)) (z.left.map eEnt) none),(3,.tree 0 0 (.osl 2 (z.ids.map eKy)))]⟩,fun z=>(ownK z.left ow++z.ids).Perm (ownK m ow)∧z.left.length+z.ids.length≤m.length,fun z=>z.left.length,⟨m,[]⟩,fun _=>rfl,?_,?_,?_⟩
 ·exact ⟨⟨rfl,rf,⟨rfl,rfl,rfl,rfl,2,rfl⟩,rfl,tv⟩,⟨⟨rf,rf,rf,rf,rfl,tv⟩,tv,⟨rfl,rfl,rfl,rfl,.inl rfl,tv⟩,⟨rfl,rfl,2,rfl⟩,tv⟩,rfl,rfl⟩
 ·exact ⟨by simp,by simp⟩
 ·rintro ⟨left,ids⟩ ⟨h1,h2⟩
  dsimp only at h1 h2
  refine ⟨tv,fun h=>⟨(fun h=>by cases h),fun _=>?_⟩,fun pos c hc=>⟨fun _=>?_,fun h=>by cases h⟩⟩
  ·have hz:left=[]:=by simpa using h
   subst hz
   have hle:ids.length≤12:=by simp at h2; omega
   have hs:=sort_spec ids hle
   refine .inr ⟨[3],[.own 0 0 0 [],.dv (.fn 35 [])],[(0,.tree 0 0 (.osl 2 (ids.map eKy)))],0,_,_,hs,by kernel_rfl,by kernel_rfl,⟨rfl,rf,tv⟩,⟨⟨rfl,rfl⟩,tv⟩,?_⟩
   have he:isortN ids (ids.length - 1)=ofL m ow:=isort_perm (by simpa [ownK] using h1) (ownK_nd hn ow)
   exact ⟨_,_,⟨rfl,rfl⟩,by kernel_rfl,⟨rfl,tv⟩,⟨rf,rf,rf,rf,rfl,tv⟩,⟨rfl,rfl⟩,⟨rfl,by rw [he]⟩,tv⟩
  ·dsimp only at hc
   rw [List.getElem?_map] at hc
   obtain ⟨⟨k,x⟩,hk,rfl⟩:∃p,left[pos]?=some p∧c=eEnt p:=by
    cases hq:left[pos]? with
    | none=>rw [hq] at hc; cases hc
    | some p=>rw [hq] at hc; exact ⟨p,rfl,by simpa using hc.symm⟩
   refine ⟨closed_eOb x,fun h=>?_,fun h=>?_⟩
   ·have hx:x.owner=ow:=by simpa using h
    refine .inl ⟨[eKy k],rfl,⟨rf,rf,tv⟩,(by simp; rfl),?_⟩
    refine .inr ⟨[eKy k],ELes.refl _,(by rw [by29]; simp; omega),(by simp; omega),⟨left.eraseIdx pos,ids++[k]⟩,?_,⟨?_,?_⟩,?_⟩
    ·exact ⟨⟨rfl,rf,rfl,rfl,tv⟩,⟨⟨rf,rf,rf,rf,rfl,tv⟩,tv,⟨rfl,rfl,rfl,erase_map _ _,.inl rfl,tv⟩,⟨rfl,by simp⟩,tv⟩,rfl,rfl⟩
    ·refine List.Perm.trans ?_ h1
     have h3:=ownK_perm (ow:=ow) (erase_perm hk)
     rw [ownK_own hx] at h3
     refine List.Perm.trans ?_ (h3.symm.append_right ids)
     rw [←List.append_assoc]
     exact List.perm_append_singleton _ _
    ·have:=(List.getElem?_eq_some_iff.1 hk).1
     simp only [List.length_append,List.length_singleton,List.length_eraseIdx]
     split <;> omega
    ·have:=(List.getElem?_eq_some_iff.1 hk).1
     simp only [List.length_eraseIdx]
     split <;> omega
   ·have hx:¬ x.owner=ow:=by simpa using h
    refine ⟨⟨left.eraseIdx pos,ids⟩,?_,⟨?_,?_⟩,?_⟩
    ·exact ⟨⟨rfl,rf,rfl,rfl,tv⟩,⟨⟨rf,rf,rf,rf,rfl,tv⟩,tv,⟨rfl,rfl,rfl,erase_map _ _,.inl rfl,tv⟩,⟨rfl,rfl⟩,tv⟩,rfl,rfl⟩
    ·refine List.Perm.trans ?_ h1
     have h3:=ownK_perm (ow:=ow) (erase_perm hk)
     rw [ownK_not hx] at h3
     exact h3.symm.append_right ids
    ·have:=(List.getElem?_eq_some_iff.1 hk).1
     simp only [List.length_eraseIdx]
     split <;> omega
    ·have:=(List.getElem?_eq_some_iff.1 hk).1
     simp only [List.length_eraseIdx]
     split <;> omega
end Go.Proofs.YtpjpdomkcabfcaaGreatDoor
namespace Go.Proofs.YtpjpdomkcabfcaaGreatDoor
open Go.TM
def opK (o:Op):Ky:=(o.flow,o.pos)
def opX (o:Op):Ob:=⟨o.item,o.owner,o.wear,o.bound⟩
def doE (its:List Item) (m:OM) (o:Op):Int :=
 if o.kind=0 then putE its m (opK o) (makeX its o.item o.owner)
 else if o.kind=1 then givE its m (opK o) o.owner o.a
 else if o.kind=2 then useE its m (opK o) o.owner (o.a+1) o.b
 else if o.kind=3 then repE its m (opK o) o.owner o.b
 else if o.kind=4 then (if (oget m (opK o)).isSome then 0 else 7)
 else putE its m (opK o) (opX o)
def doM (its:List Item) (m:OM) (o:Op):OM :=
 if o.kind=0 then putM its m (opK o) (makeX its o.item o.owner)
 else if o.kind=1 then givM its m (opK o) o.owner o.a
 else if o.kind=2 then useM its m (opK o) o.owner (o.a+1) o.b
 else if o.kind=3 then repM its m (opK o) o.owner o.b
 else if o.kind=4 then odel m (opK o)
 else putM its m (opK o) (opX o)
variable [KObj]
set_option maxRecDepth 100000
theorem state_spec (f p i o w:Int) (b:Bool):PSpec Tryz.prog 39 [.agg [I f,I p,I i,I o,I w,B b]] [.agg [I i,I o,I w,B b]]:=by
 refine pspec_of tab_ok mixed (calls_snd _) (range_snd _) Tryz.func39 rfl (by kernel_rfl) rfl ?_
 exact ⟨rf,tv⟩
set_option maxHeartbeats 4000000 in
theorem do_spec (its:List Item) (m:OM) (o:Op) (hm:OkS its m) (ha:0≤o.a∧o.a≤1073741825):CSpec Tryz.prog 13 [.ptr 0 0,ofD (eOp o)] 2 (stK its m) 0 [.dv (I (doE its m o))] (stK its (doM its m o)):=by
 refine cspec_of tab_ok mixed (calls_snd _) (range_snd _) Tryz.func13 rfl rfl (by kernel_rfl) ?_
 refine And.intro ?_ ?_
 ·intro h
  have h0:o.kind=0:=by have h':(o.kind == 0)=true:=h; simpa using h'
  clear h
  have e1:doE its m o=putE its m (opK o) (makeX its o.item o.owner):=by simp [doE,h0]
  have e2:doM its m o=putM its m (opK o) (makeX its o.item o.owner):=by simp [doM,h0]
  rw [e1,e2]
  refine .inr ⟨[0,1],[.ptr 0 0,ofD (eKy (opK o)),.dv (I o.item),.dv (I o.owner)],stK its m,0,_,_,make_spec its m (opK o) o.item o.owner,by kernel_rfl,by kernel_rfl,⟨rfl,⟨rf,rf,tv⟩,rf,rf,tv⟩,⟨⟨rf,rf,rf,rf,rfl,tv⟩,⟨rfl,rfl⟩,tv⟩,?_⟩
  exact ⟨_,_,⟨rfl,rfl⟩,by kernel_rfl,⟨rf,tv⟩,⟨rf,rf,rf,rf,rfl,tv⟩,⟨rfl,rfl⟩,tv⟩
 intro h
 have h0:¬ o.kind=0:=by have h':(o.kind == 0)=false:=h; simpa using h'
 clear h
 refine And.intro ?_ ?_
 ·intro h
  have h1:o.kind=1:=by have h':(o.kind == 1)=true:=h; simpa using h'
  clear h
  have e1:doE its m o=givE its m (opK o) o.owner o.a:=by simp [doE,h1]
  have e2:doM its m o=givM its m (opK o) o.owner o.a:=by simp [doM,h1]
  rw [e1,e2]
  refine .inr ⟨[0,1],[.ptr 0 0,ofD (eKy (opK o)),.dv (I o.owner),.dv (I o.a)],stK its m,0,_,_,giv_spec its m (opK o) o.owner o.a hm,by kernel_rfl,by kernel_rfl,⟨rfl,⟨rf,rf,tv⟩,rf,rf,tv⟩,⟨⟨rf,rf,rf,rf,rfl,tv⟩,⟨rfl,rfl⟩,tv⟩,?_⟩
  exact ⟨_,_,⟨rfl,rfl⟩,by kernel_rfl,⟨rf,tv⟩,⟨rf,rf,rf,rf,rfl,tv⟩,⟨rfl,rfl⟩,tv⟩
 intro h
 have h1:¬ o.kind=1:=by have h':(o.kind == 1)=false:=h; simpa using h'
 clear h
 refine And.intro ?_ ?_
 ·intro h
  have h2:o.kind=2:=by have h':(o.kind == 2)=true:=h; simpa using h'
  clear h
  have e1:doE its m o=useE its m (opK o) o.owner (o.a+1) o.b:=by simp [doE,h2]
  have e2:doM its m o=useM its m (opK o) o.owner (o.a+1) o.b:=by simp [doM,h2]
  rw [e1,e2]
  refine ⟨fun _=>⟨by omega,by omega⟩,?_⟩
  refine .inr ⟨[0,1],[.ptr 0 0,ofD (eKy (opK o)),.dv (I o.owner),.dv (I (o.a+1)),.dv (I o.b)],stK its m,0,_,_,use_spec its m (opK o) o.owner (o.a+1) o.b hm,by kernel_rfl,by kernel_rfl,⟨rfl,⟨rf,rf,tv⟩,rf,rf,rf,tv⟩,⟨⟨rf,rf,rf,rf,rfl,tv⟩,⟨rfl,rfl⟩,tv⟩,?_⟩
  exact ⟨_,_,⟨rfl,rfl⟩,by kernel_rfl,⟨rf,tv⟩,⟨rf,rf,rf,rf,rfl,tv⟩,⟨rfl,rfl⟩,tv⟩
 intro h
 have h2:¬ o.kind=2:=by have h':(o.kind == 2)=false:=h; simpa using h'
 clear h
 refine And.intro ?_ ?_
 ·intro h
  have h3:o.kind=3:=by have h':(o.kind == 3)=true:=h; simpa using h'
  clear h
  have e1:doE its m o=repE its m (opK o) o.owner o.b:=by simp [doE,h3]
  have e2:doM its m o=repM its m (opK o) o.owner o.b:=by simp [doM,h3]
  rw [e1,e2]
  refine .inr ⟨[0,1],[.ptr 0 0,ofD (eKy (opK o)),.dv (I o.owner),.dv (I o.b)],stK its m,0,_,_,rep_spec its m (opK o) o.owner o.b hm,by kernel_rfl,by kernel_rfl,⟨rfl,⟨rf,rf,tv⟩,rf,rf,tv⟩,⟨⟨rf,rf,rf,rf,rfl,tv⟩,⟨rfl,rfl⟩,tv⟩,?_⟩
  exact ⟨_,_,⟨rfl,rfl⟩,by kernel_rfl,⟨rf,tv⟩,⟨rf,rf,rf,rf,rfl,tv⟩,⟨rfl,rfl⟩,tv⟩
 intro h
 have h3:¬ o.kind=3:=by have h':(o.kind == 3)=false:=h; simpa using h'
 clear h
 refine And.intro ?_ ?_
 ·intro h
  have h4:o.kind=4:=by have h':(o.kind == 4)=true:=h; simpa using h'
  clear h
  have e1:doE its m o=(if (oget m (opK o)).isSome then 0 else 7):=by simp [doE,h4]
  have e2:doM its m o=odel m (opK o):=by simp [doM,h4]
  rw [e1,e2]
  refine .inr ⟨[0,1],[.ptr 0 0,ofD (eKy (opK o))],stK its m,0,_,_,remove_spec its m (opK o),by kernel_rfl,by kernel_rfl,⟨rfl,⟨rf,rf,tv⟩,tv⟩,⟨⟨rf,rf,rf,rf,rfl,tv⟩,⟨rfl,rfl⟩,tv⟩,?_⟩
  exact ⟨_,_,⟨rfl,rfl⟩,by kernel_rfl,⟨rf,tv⟩,⟨rf,rf,rf,rf,rfl,tv⟩,⟨rfl,rfl⟩,tv⟩
 intro h
 have h4:¬ o.kind=4:=by have h':(o.kind == 4)=false:=h; simpa using h'
 clear h
 have e1:doE its m o=putE its m (opK o) (opX o):=by simp [doE,h0,h1,h2,h3,h4]
 have e2:doM its m o=putM its m (opK o) (opX o):=by simp [doM,h0,h1,h2,h3,h4]
 rw [e1,e2]
 refine .inl ⟨_,fun _=>(state_spec o.flow o.pos o.item o.owner o.wear o.bound).ok,?_⟩
 refine .inr ⟨[0,1],[.ptr 0 0,ofD (eKy (opK o)),ofD (eOb (opX o))],stK its m,0,_,_,put_spec its m (opK o) (opX o),by kernel_rfl,by kernel_rfl,⟨rfl,⟨rf,rf,tv⟩,⟨rf,rf,rf,rf,tv⟩,tv⟩,⟨⟨rf,rf,rf,rf,rfl,tv⟩,⟨rfl,rfl⟩,tv⟩,?_⟩
 exact ⟨by kernel_rfl,_,_,⟨rfl,rfl⟩,by kernel_rfl,⟨rf,tv⟩,⟨rf,rf,rf,rf,rfl,tv⟩,⟨rfl,rfl⟩,tv⟩
end Go.Proofs.YtpjpdomkcabfcaaGreatDoor
