import Derived.Test.YtccialgeakmmpaaGreatDoorEM19
import Derived.Test.YtccialgeakmmpaaGreatDoorEM20
import Derived.WalkKit
import Derived.Lib.Mul64
import Derived.Laws.Bits64b
set_option linter.unusedVariables false
set_option linter.unusedSimpArgs false
set_option linter.unusedSectionVars false
namespace Go.Proofs.YtccialgeakmmpaaGreatDoor
open Go.TM
def bN (b:Bool):Int:=if b then 1 else 0
def nums (k:Ky) (x:Ob):List Int:=[k.1,k.2,x.item,x.owner,x.wear,bN x.bound]
def obB (k:Ky) (x:Ob):List Int:=(nums k x).flatMap ibytes
def encB (m:OM):List Int:=ibytes m.length++(keysOf m).flatMap fun k=>obB k ((oget m k).getD Ob.zero)
theorem ibytes_len (n:Int):(ibytes n).length≤11:=by
 have h:∀f n,(vbyteN f n).length≤f+1:=by
  intro f
  induction f with
  | zero=>intro n; simp [vbyteN]
  | succ f ih =>
   intro n
   simp only [vbyteN]
   split
   ·simp
   ·have:=ih (n / 128); simp; omega
 exact h 10 _
theorem flat_len:∀l:List Int,(l.flatMap ibytes).length≤11 * l.length
 | []=>by simp
 | x::l=>by
  have:=ibytes_len x
  have:=flat_len l
  simp only [List.flatMap_cons,List.length_append,List.length_cons]
  omega
variable [KObj]
def NumS (m:OM):Prop:=∀k x,oget m k=some x→∀n,n∈nums k x→InI n
set_option maxRecDepth 100000
def obD (k:Ky) (x:Ob):DV:=.agg [I k.1,I k.2,I x.item,I x.owner,I x.wear,B x.bound]
theorem number_spec (k:Ky) (x:Ob) (j:Nat) (hj:j<6):PSpec Tryz.prog 56 [obD k x,I j] [I ((nums k x).getD j 0)]:=by
 have hj':j=0 ∨ j=1 ∨ j=2 ∨ j=3 ∨ j=4 ∨ j=5:=by omega
 refine pspec_of tab_ok mixed (calls_snd _) (range_snd _) Tryz.func56 rfl (by kernel_rfl) rfl ?_
 rcases hj' with rfl | rfl | rfl | rfl | rfl | rfl
 ·exact ⟨fun _=>⟨rf,tv⟩,fun h=>by cases h⟩
 ·exact ⟨fun h=>(by cases h),fun _=>⟨fun _=>⟨rf,tv⟩,fun h=>by cases h⟩⟩
 ·exact ⟨fun h=>(by cases h),fun _=>⟨fun h=>(by cases h),fun _=>⟨fun _=>⟨rf,tv⟩,fun h=>by cases h⟩⟩⟩
 ·exact ⟨fun h=>(by cases h),fun _=>⟨fun h=>(by cases h),fun _=>⟨fun h=>(by cases h),fun _=>⟨fun _=>⟨rf,tv⟩,fun h=>by cases h⟩⟩⟩⟩
 ·exact ⟨fun h=>(by cases h),fun _=>⟨fun h=>(by cases h),fun _=>⟨fun h=>(by cases h),fun _=>⟨fun h=>(by cases h),fun _=>⟨fun _=>⟨rf,tv⟩,fun h=>by cases h⟩⟩⟩⟩⟩
 ·refine ⟨fun h=>(by cases h),fun _=>⟨fun h=>(by cases h),fun _=>⟨fun h=>(by cases h),fun _=>⟨fun h=>(by cases h),fun _=>⟨fun h=>(by cases h),fun _=>?_⟩⟩⟩⟩⟩
  exact ⟨fun h=>⟨le_int (by show (1:Int)=bN x.bound; rw [show x.bound=true from h]; rfl),tv⟩,fun h=>⟨le_int (by show (0:Int)=bN x.bound; rw [show x.bound=false from h]; rfl),tv⟩⟩
def eKk (its:List Item) (m:OM) (bs:List Int):Boxes:=stK its m++[(2,.cells [.own 3 0 0 []]),(3,.tree 0 0 (.osl 1 (bs.map Y))),(8,.tree 0 0 (.osl 2 ((keysOf m).map eKy)))]
def encT (m:OM) (i:Nat):List Int:=ibytes m.length++((keysOf m).take i).flatMap fun k=>obB k ((oget m k).getD Ob.zero)
def eInv1 (its:List Item) (m:OM) (i:Nat):AState:=⟨9,[(0,.ptr 0 0),(3,.ptr 2 0),(18,.own 8 0 0 []),(19,.dv (I (keysOf m).length)),(20,.dv (I i))],eKk its m (encT m i)⟩
def eInv2 (its:List Item) (m:OM) (i:Nat) (k:Ky) (x:Ob) (j:Nat):AState:=⟨9,[(0,.ptr 0 0),(3,.ptr 2 0),(6,.bfn 56 [.agg (dvs [I k.1,I k.2,I x.item,I x.owner,I x.wear,B x.bound])]),(18,.own 8 0 0 []),(19,.dv (I (keysOf m).length)),(20,.dv (I i)),(33,.dv (I j))],eKk its m (encT m i++((nums k x).take j).flatMap ibytes)⟩
theorem encB_len (m:OM) (hkl:(keysOf m).length=m.length) (hl:m.length≤12):(encB m).length≤900:=by
 have h1:=ibytes_len m.length
 have h2:∀l:List Ky,(l.flatMap fun k=>obB k ((oget m k).getD Ob.zero)).length≤66 * l.length:=by
  intro l
  induction l with
  | nil=>simp
  | cons k l ih =>
   have h:(obB k ((oget m k).getD Ob.zero)).length≤11 * 6:=flat_len (nums k ((oget m k).getD Ob.zero))
   simp only [List.flatMap_cons,List.length_append,List.length_cons]
   omega
 have h3:=h2 (keysOf m)
 unfold encB
 simp only [List.length_append]
 omega
theorem encT_len (m:OM) (i:Nat) (hkl:(keysOf m).length=m.length) (hl:m.length≤12):(encT m i).length≤900:=by
 have h1:=ibytes_len m.length
 have h2:∀l:List Ky,(l.flatMap fun k=>obB k ((oget m k).getD Ob.zero)).length≤66 * l.length:=by
  intro l
  induction l with
  | nil=>simp
  | cons k l ih =>
   have h:(obB k ((oget m k).getD Ob.zero)).length≤11 * 6:=flat_len (nums k ((oget m k).getD Ob.zero))
   simp only [List.flatMap_cons,List.length_append,List.length_cons]
   omega
 have h3:=h2 ((keysOf m).take i)
 have h4:((keysOf m).take i).length≤(keysOf m).length:=by rw [List.length_take]; exact Nat.min_le_right _ _
 unfold encT
 simp only [List.length_append]
 omega
theorem numsT (k:Ky) (x:Ob) {j:Nat} (hj:j<6):((nums k x).take j).flatMap ibytes++ibytes ((nums k x).getD j 0)=((nums k x).take (j+1)).flatMap ibytes:=by
 have hj':j<(nums k x).length:=hj
 rw [List.take_succ_eq_append_getElem hj',List.flatMap_append,List.getD_eq_getElem?_getD,List.getElem?_eq_getElem hj']
 simp
set_option maxHeartbeats 4000000 in
theorem encode_spec (its:List Item) (m:OM) (hn:NdK m) (hl:m.length≤12) (hi:NumS m):CSpec Tryz.prog 24 [.ptr 0 0] 2 (stK its m) 8 [.own 9 0 0 []] (stK its m++[(9,.tree 0 0 (.osl 1 ((encB m).map Y)))]):=by
 refine cspec_of tab_ok mixed (calls_snd _) (range_snd _) Tryz.func24 rfl rfl (by kernel_rfl) ?_
 refine .inr ⟨[2],[.ptr 0 0,.dv (I (m.length:Nat))],[(0,.cells [.dv .nils])],1,_,_,wint0_spec _ ⟨by omega,by omega⟩,by kernel_rfl,by kernel_rfl,⟨rfl,le_int (by simp),tv⟩,⟨⟨rf,tv⟩,tv⟩,?_⟩
 refine .inr ⟨[0,1],[.ptr 0 0],stK its m,5,_,_,sorted_spec its m hn hl,by kernel_rfl,by kernel_rfl,⟨rfl,tv⟩,⟨⟨rf,rf,rf,rf,rfl,tv⟩,⟨rfl,rfl⟩,tv⟩,?_⟩
 have hkl:(keysOf m).length=m.length:=by unfold keysOf; rw [isortN_len,List.length_map]
 refine ⟨Nat,eInv1 its m,fun i=>i≤(keysOf m).length,fun i=>(keysOf m).length - i,0,fun _=>rfl,⟨⟨rfl,rfl,rfl,le_int (by simp),rf,tv⟩,⟨⟨rf,rf,rf,rf,rfl,tv⟩,⟨rfl,rfl⟩,⟨rfl,tv⟩,⟨rfl,by simp [encT]⟩,⟨rfl,rfl⟩,tv⟩,rfl,rfl⟩,Nat.zero_le _,?_⟩
 intro i hi0
 refine ⟨fun h=>?_,fun h=>?_⟩
 ·have h':(i:Int)<((keysOf m).length:Int):=of_decide_eq_true h
  have hlt:i<(keysOf m).length:=by omega
  clear h
  have hkm:(keysOf m)[i]∈m.map Prod.fst:=(isortN_perm _ _).mem_iff.1 (List.getElem_mem hlt)
  obtain ⟨x,hx⟩:∃x,oget m (keysOf m)[i]=some x:=by
   obtain ⟨⟨k',x⟩,h1,h2⟩:=List.mem_map.1 hkm
   exact ⟨x,mem_oget hn (by rw [←h2]; exact h1)⟩
  refine ⟨fun _=>⟨by omega,by simp; omega⟩,eKy (keysOf m)[i],fun _=>by simp [hlt],?_⟩
  generalize hk:(keysOf m)[i]=k at hkm hx
  refine ⟨keyTI,eKy k,rfl,rfl,eOb x,true,fun _=>by rw [mget_ky,hx]; rfl,(fun h=>by cases h),rfl,?_⟩
  refine ⟨by kernel_rfl,Nat,eInv2 its m i k x,fun j=>j≤6,fun j=>6 - j,0,fun _=>rfl,⟨⟨rfl,rfl,⟨rfl,⟨rf,rf,rf,rf,rf,rf,tv⟩,tv⟩,rfl,rf,rf,rf,tv⟩,⟨⟨rf,rf,rf,rf,rfl,tv⟩,⟨rfl,rfl⟩,⟨rfl,tv⟩,⟨rfl,by simp⟩,⟨rfl,rfl⟩,tv⟩,rfl,rfl⟩,by omega,?_⟩
  intro j hj
  refine ⟨fun h=>?_,fun h=>?_⟩
  ·have h2:(j:Int)<6:=of_decide_eq_true h
   have hj2:j<6:=by omega
   refine .inl ⟨_,fun _=>(number_spec k x j hj2).ok,?_⟩
   have hin:InI ((nums k x).getD j 0):=hi k x hx _ (by
    rw [List.getD_eq_getElem?_getD,List.getElem?_eq_getElem (show j<(nums k x).length from hj2)]
    exact List.getElem_mem _)
   have hw:=wint_spec (encT m i++((nums k x).take j).flatMap ibytes) (by
    have h1:=encT_len m i hkl hl
    have h2:=flat_len ((nums k x).take j)
    have h3:((nums k x).take j).length≤6:=by rw [List.length_take]; exact Nat.min_le_right _ _
    simp only [List.length_append]; omega) _ hin
   refine .inr ⟨[2,3],[.ptr 0 0,.dv (I ((nums k x).getD j 0))],wK (encT m i++((nums k x).take j).flatMap ibytes) 0,0,_,_,hw,by kernel_rfl,by kernel_rfl,⟨rfl,rf,tv⟩,⟨⟨rfl,tv⟩,⟨rfl,rfl⟩,tv⟩,?_⟩
   refine ⟨fun _=>⟨by omega,by omega⟩,j+1,⟨⟨rfl,rfl,⟨rfl,⟨rf,rf,rf,rf,rf,rf,tv⟩,tv⟩,rfl,rf,rf,le_int (by simp),tv⟩,⟨⟨rf,rf,rf,rf,rfl,tv⟩,⟨rfl,rfl⟩,⟨rfl,tv⟩,⟨rfl,?_⟩,⟨rfl,rfl⟩,tv⟩,rfl,rfl⟩,by show j+1≤6; omega,by show 6 - (j+1)<6 - j; omega⟩
   show DV.osl 1 _=DV.osl 1 _
   congr 2
   rw [List.append_assoc]
   congr 1
   exact numsT k x hj2
  ·have h2:¬ (j:Int)<6:=of_decide_eq_false h
   have hj6:j=6:=by omega
   subst hj6
   refine ⟨fun _=>⟨by omega,by omega⟩,i+1,⟨⟨rfl,rfl,rfl,rf,le_int (by simp),tv⟩,⟨⟨rf,rf,rf,rf,rfl,tv⟩,⟨rfl,rfl⟩,⟨rfl,tv⟩,⟨rfl,?_⟩,⟨rfl,rfl⟩,tv⟩,rfl,rfl⟩,by show i+1≤(keysOf m).length; omega,by show (keysOf m).length - (i+1)<(keysOf m).length - i; omega⟩
   show DV.osl 1 _=DV.osl 1 _
   congr 2
   unfold encT
   rw [List.append_assoc]
   congr 1
   rw [List.take_succ_eq_append_getElem hlt,hk,List.flatMap_append]
   congr 1
   simp only [List.flatMap_cons,List.flatMap_nil,List.append_nil,hx]
   rfl
 ·have h':¬ (i:Int)<((keysOf m).length:Int):=of_decide_eq_false h
  have he:i=(keysOf m).length:=by omega
  subst he
  have hb:encT m (keysOf m).length=encB m:=by unfold encT encB; rw [List.take_length]
  have hne:encB m ≠ []:=by
   unfold encB
   have:=vbytes_ne (zz (m.length:Nat)).toNat
   simp only [ibytes]
   cases hq:vbytes (zz ((m.length:Nat):Int)).toNat with
   | nil=>exact absurd hq this
   | cons a b=>simp
  have hdn:=done_spec (encB m) hne (by have:=encB_len m hkl hl; omega)
  rw [←hb] at hdn
  refine .inr ⟨[2,3],[.ptr 0 0],wK (encT m (keysOf m).length) 0,1,_,_,hdn,by kernel_rfl,by kernel_rfl,⟨rfl,tv⟩,⟨⟨rfl,tv⟩,⟨rfl,rfl⟩,tv⟩,?_⟩
  rw [hb]
  exact ⟨_,_,⟨rfl,rfl⟩,by kernel_rfl,⟨rfl,tv⟩,⟨rf,rf,rf,rf,rfl,tv⟩,⟨rfl,rfl⟩,⟨rfl,rfl⟩,tv⟩
end Go.Proofs.YtccialgeakmmpaaGreatDoor
namespace Go.Proofs.YtccialgeakmmpaaGreatDoor
open Go.TM
set_option maxRecDepth 100000
def around (n m:Int):Int:=if n.tmod m<0 then n.tmod m+m else n.tmod m
theorem around_bd (n m:Int) (hm:1≤m):0≤around n m∧around n m<m:=by
 unfold around
 have h1:=Int.tmod_lt_of_pos n (show 0<m by omega)
 have h2:=Int.lt_tmod_of_pos n (show 0<m by omega)
 split <;> omega
variable [KObj]
theorem around_spec (n m:Int) (hm:1≤m) (hm2:m≤1000000000000):PSpec Tryz.prog 7 [I n,I m] [I (around n m)]:=by
 refine pspec_of tab_ok mixed (calls_snd _) (range_snd _) Tryz.func7 rfl (by kernel_rfl) rfl ?_
 have h1:=Int.tmod_lt_of_pos n (show 0<m by omega)
 have h2:=Int.lt_tmod_of_pos n (show 0<m by omega)
 refine ⟨fun _=>by omega,fun h=>?_,fun h=>?_⟩
 ·have h':n.tmod m<0:=of_decide_eq_true h
  exact ⟨fun _=>⟨by omega,by omega⟩,le_int (by rw [around,if_pos h']),tv⟩
 ·have h':¬ n.tmod m<0:=of_decide_eq_false h
  exact ⟨le_int (by rw [around,if_neg h']),tv⟩
theorem cat_le {b w:Int} (hb:0≤b∧b≤2) (hw:1≤w∧w≤40):(catD (I b) (I w)).Le (catD (.ivl .i64 0 2) (.ivl .i64 1 40)):=by
 refine DV.agg_le ⟨?_,rf,rf,rf,tv⟩ (fun d hd=>by simp [catD] at hd; rcases hd with rfl | rfl | rfl | rfl <;> rfl)
 refine DV.sl_le rfl fun i x y hx hy=>?_
 match i,hx,hy with
 | 0,hx,hy=>simp [itemsD] at hx hy; subst hx; subst hy; exact ⟨DLes.refl _,fun d hd=>by simp [DV.cells] at hd; rcases hd with rfl | rfl | rfl | rfl | rfl | rfl | rfl <;> rfl⟩
 | 1,hx,hy=>simp [itemsD] at hx hy; subst hx; subst hy; exact ⟨DLes.refl _,fun d hd=>by simp [DV.cells] at hd; rcases hd with rfl | rfl | rfl | rfl | rfl | rfl | rfl <;> rfl⟩
 | 2,hx,hy=>simp [itemsD] at hx hy; subst hx; subst hy; exact ⟨DLes.refl _,fun d hd=>by simp [DV.cells] at hd; rcases hd with rfl | rfl | rfl | rfl | rfl | rfl | rfl <;> rfl⟩
 | 3,hx,hy=>simp [itemsD] at hx hy; subst hx; subst hy; exact ⟨DLes.refl _,fun d hd=>by simp [DV.cells] at hd; rcases hd with rfl | rfl | rfl | rfl | rfl | rfl | rfl <;> rfl⟩
 | 4,hx,hy=>simp [itemsD] at hx hy; subst hx; subst hy; exact ⟨⟨rf,rf,rf,rf,le_ivl hw.1 hw.2,le_ivl hb.1 hb.2,rf,tv⟩,fun d hd=>by simp [DV.cells] at hd; rcases hd with rfl | rfl | rfl | rfl | rfl | rfl | rfl <;> rfl⟩
 | i+5,hx,hy=>simp [itemsD] at hx
theorem binding_spec (b w n k:Int):PSpec Tryz.prog 5 [catD (I b) (I w),I n,I k] [catD (I (around n 3)) (I (1+around k 40))]:=by
 refine pspec_of tab_ok mixed (calls_snd _) (range_snd _) Tryz.func5 rfl (by kernel_rfl) rfl ?_
 refine .inr ⟨itemsD (I b) (I w),ELes.refl _,Nat.le_of_ble_eq_true rfl,Nat.le_of_ble_eq_true rfl,.inl ⟨_,fun _=>(around_spec n 3 (by omega) (by omega)).ok,?_⟩⟩
 refine ⟨fun _=>⟨by decide,by show (4:Int)<5; decide⟩,[I (around n 3)],⟨rf,tv⟩,_,rfl,?_⟩
 refine .inl ⟨_,fun _=>(around_spec k 40 (by omega) (by omega)).ok,?_⟩
 have hk:=around_bd k 40 (by omega)
 refine ⟨fun _=>⟨by omega,by omega⟩,fun _=>⟨by decide,by show (4:Int)<5; decide⟩,[I (1+around k 40)],⟨rf,tv⟩,_,rfl,?_⟩
 exact ⟨rf,tv⟩
def itemsL (b w:Int):List Item:=[⟨⟨⟨[103,111,108,100]⟩⟩,false,true,true,0,0,0⟩,
 ⟨⟨⟨[111,114,101]⟩⟩,false,false,false,0,0,0⟩,
 ⟨⟨⟨[99,111,97,108]⟩⟩,false,true,false,0,0,0⟩,
 ⟨⟨⟨[98,97,114]⟩⟩,false,false,false,0,0,0⟩,
 ⟨⟨⟨[115,119,111,114,100]⟩⟩,true,false,false,w,b,3⟩]
def nwK (b w:Int):Boxes:=[(2,.cells (stC (itemsL b w))),(1,.tree 0 0 (.omap pairK []))]
theorem new_spec {b w:Int} (hb:0≤b∧b≤2) (hw:1≤w∧w≤40):CSpec Tryz.prog 18 [ofD (catD (I b) (I w))] 0 [] 3 [.ptr 2 0,.dv (I 0)] (nwK b w):=by
 refine cspec_of tab_ok mixed (calls_snd _) (range_snd _) Tryz.func18 rfl rfl (by kernel_rfl) ?_
 have hv:CallOk Tryz.prog 41 [catD (I b) (I w)] [I 0]:=⟨[catD (.ivl .i64 0 2) (.ivl .i64 1 40)],⟨cat_le hb hw,tv⟩,valid_spec⟩
 refine .inl ⟨_,fun _=>hv,?_⟩
 refine ⟨fun h=>(by cases h),fun _=>?_⟩
 refine .inl ⟨_,fun _=>(copy_spec b w).ok,?_⟩
 exact ⟨pairK,_,_,⟨rfl,rfl⟩,by kernel_rfl,⟨rfl,rf,tv⟩,⟨rf,rf,rf,rf,rfl,tv⟩,⟨rfl,rfl⟩,tv⟩
end Go.Proofs.YtccialgeakmmpaaGreatDoor
namespace Go.Proofs.YtccialgeakmmpaaGreatDoor
open Go.TM Go.RowKit
theorem m64_mask (a:Nat) (ha:a<18446744073709551616):bits .and .u64 (a:Int) 4294967295=((a % 4294967296:Nat):Int):=by
 have h:=bits_and_u64_nat a 4294967295 ha (by omega)
 have e:a &&& 4294967295=a % 4294967296:=Nat.and_two_pow_sub_one_eq_mod a 32
 rw [e] at h
 exact h
theorem m64_div (a:Nat):(a:Int) / 4294967296=((a / 4294967296:Nat):Int):=by omega
theorem m64_mul (a b:Nat):(a:Int) * (b:Int)=((a * b:Nat):Int):=(Int.natCast_mul a b).symm
theorem m64_add (a b:Nat):(a:Int)+(b:Int)=((a+b:Nat):Int):=(Int.natCast_add a b).symm
theorem m64_wrap (a:Nat) (ha:a<18446744073709551616):IntKind.u64.wrap (a:Int)=(a:Int):=by rw [IntKind.wrap_u64]; omega
theorem m64_wrapM (a:Nat):IntKind.u64.wrap (a:Int)=((a % 18446744073709551616:Nat):Int):=by rw [IntKind.wrap_u64]; omega
set_option maxHeartbeats 1000000 in
theorem mul64_calls (x y:Nat) (hx:x<18446744073709551616) (hy:y<18446744073709551616) (w:World) :
  Calls Tryz.prog 82 #[.int .u64 x,.int .u64 y] w fun e w'=>e=.returned (.tuple #[.int .u64 ((x * y / 18446744073709551616:Nat):Int),.int .u64 ((x * y % 18446744073709551616:Nat):Int)])∧w'=w:=by
 obtain ⟨bd,bt,bw,hhi⟩:=Lib.mul64_hi x y hx hy
 have ba:=Lib.half_mul_le (a:=x / 4294967296) (b:=y / 4294967296) (by omega) (by omega)
 have bb:=Lib.half_mul_le (a:=x / 4294967296) (b:=y % 4294967296) (by omega) (by omega)
 have bc:=Lib.half_mul_le (a:=x % 4294967296) (b:=y / 4294967296) (by omega) (by omega)
 have ba':x / 4294967296 * (y / 4294967296)<18446744073709551616:=by omega
 have bb':x / 4294967296 * (y % 4294967296)<18446744073709551616:=by omega
 have bc':x % 4294967296 * (y / 4294967296)<18446744073709551616:=by omega
 have bh1:x / 4294967296 * (y / 4294967296)+(x / 4294967296 * (y % 4294967296)+x % 4294967296 * (y % 4294967296) / 4294967296) / 4294967296<18446744073709551616:=by omega
 have bh:x / 4294967296 * (y / 4294967296)+(x / 4294967296 * (y % 4294967296)+x % 4294967296 * (y % 4294967296) / 4294967296) / 4294967296+((x / 4294967296 * (y % 4294967296)+x % 4294967296 * (y % 4294967296) / 4294967296) % 4294967296+x % 4294967296 * (y / 4294967296)) / 4294967296<18446744073709551616:=by omega
 go_enter Tryz.func82,Tryz.ntmps82
 go_wp2
 simp only [m64_mask x hx,m64_mask y hy,m64_div,m64_mul,m64_add,m64_wrap _ bd,m64_wrap _ bb',m64_wrap _ bt,m64_mask _ bt,m64_wrap _ bc',m64_wrap _ bw,m64_wrap _ ba',m64_wrap _ bh1,m64_wrap _ bh,m64_wrapM (x * y)]
 rw [hhi]
 go_ret2
 exact ⟨rfl,rfl⟩
variable [KObj]
abbrev U (n:Nat):DV:=.int .u64 (n:Int)
theorem mul64_spec (x y:Nat) (hx:x<18446744073709551616) (hy:y<18446744073709551616):PSpec Tryz.prog 82 [U x,U y] [U (x * y / 18446744073709551616),U (x * y % 18446744073709551616)]:=by
 refine ⟨⟨_,Tryz.func82,by kernel_rfl,rfl⟩,fun w M vs hin hgl hr=>?_⟩
 obtain ⟨v0,v1,rfl⟩:∃v0 v1,vs=[v0,v1]:=by
  match vs,hr.1 with
  | [a,b],_=>exact ⟨a,b,rfl⟩
 have h0:=hr.2 0 _ v0 rfl rfl
 have h1:=hr.2 1 _ v1 rfl rfl
 cases h0 with | int=>cases h1 with | int =>
 refine (mul64_calls x y hx hy w).mono ?_
 rintro e w' ⟨rfl,rfl⟩
 exact ⟨_,M,rfl,Below.refl _ _,Mem.Le.refl _,hin,fun _ _=>rfl,[_,_],rfl,.cons (.int _ _) (.cons (.int _ _) (.nil _))⟩
theorem div64_spec (x y:Nat) (hx:x<18446744073709551616) (hy:0<y) (hy2:y<18446744073709551616):PSpec Tryz.prog 83 [U 0,U x,U y] [U (x / y),U (x % y)]:=by
 refine pspec_of tab_ok mixed (calls_snd _) (range_snd _) Tryz.func83 rfl (by kernel_rfl) rfl ?_
 have h0:¬ (y:Int)=0:=by omega
 refine ⟨fun h=>absurd (eq_of_beq h) h0,fun _=>⟨fun h=>absurd (of_decide_eq_true h) (by show ¬ (y:Int)≤0; omega),fun _=>⟨fun _=>?_,fun h=>by cases h⟩⟩⟩
 refine ⟨fun _=>h0,fun _=>h0,by kernel_rfl,le_int ?_,le_int ?_,tv⟩
 ·rw [←Int.ofNat_tdiv]
  exact m64_wrap _ (Nat.lt_of_le_of_lt (Nat.div_le_self x y) hx)
 ·exact (Int.ofNat_tmod x y).symm
theorem isAmount_spec (n:Int):PSpec Tryz.prog 80 [I n] [B (decide (0≤n) && decide (n≤1099511627776))]:=by
 refine pspec_of tab_ok mixed (calls_snd _) (range_snd _) Tryz.func80 rfl (by kernel_rfl) rfl ?_
 repeat first | refine ⟨id,?_⟩ | refine ⟨fun _ h=>bw_f h,?_⟩ | refine ⟨fun _ h=>bw_t h,?_⟩ | refine ⟨fun h=>⟨h,fun h2=>bw_and h h2⟩,?_⟩ | refine ⟨fun h=>⟨h,fun h2=>bw_andf h h2⟩,?_⟩
 refine ⟨DV.Le.of_eq ?_,tv⟩
 cases decide (0≤n) <;> rfl
theorem isLarge_spec (n:Int):PSpec Tryz.prog 81 [I n] [B (decide (0≤n) && decide (n≤1152921504606846976))]:=by
 refine pspec_of tab_ok mixed (calls_snd _) (range_snd _) Tryz.func81 rfl (by kernel_rfl) rfl ?_
 repeat first | refine ⟨id,?_⟩ | refine ⟨fun _ h=>bw_f h,?_⟩ | refine ⟨fun _ h=>bw_t h,?_⟩ | refine ⟨fun h=>⟨h,fun h2=>bw_and h h2⟩,?_⟩ | refine ⟨fun h=>⟨h,fun h2=>bw_andf h h2⟩,?_⟩
 refine ⟨DV.Le.of_eq ?_,tv⟩
 cases decide (0≤n) <;> rfl
theorem divide_spec (a b d:Nat) (ha:a≤1099511627776) (hb:b≤1152921504606846976) (hd:0<d) (hd2:d≤1152921504606846976) (hm:a * b<18446744073709551616) (hq:a * b / d≤1099511627776) :
  PSpec Tryz.prog 46 [I a,I b,I d] [U (a * b / d),U (a * b % d),I 0]:=by
 refine pspec_of tab_ok mixed (calls_snd _) (range_snd _) Tryz.func46 rfl (by kernel_rfl) rfl ?_
 refine .inl ⟨_,fun _=>(isAmount_spec a).ok,?_⟩
 repeat first | refine ⟨id,?_⟩ | refine ⟨fun _ h=>bw_f h,?_⟩ | refine ⟨fun _ h=>bw_t h,?_⟩ | refine ⟨fun h=>⟨h,fun h2=>bw_and h h2⟩,?_⟩ | refine ⟨fun h=>⟨h,fun h2=>bw_andf h h2⟩,?_⟩
 refine .inl ⟨_,fun _=>(isLarge_spec b).ok,?_⟩
 repeat first | refine ⟨id,?_⟩ | refine ⟨fun _ h=>bw_f h,?_⟩ | refine ⟨fun _ h=>bw_t h,?_⟩ | refine ⟨fun h=>⟨h,fun h2=>bw_and h h2⟩,?_⟩ | refine ⟨fun h=>⟨h,fun h2=>bw_andf h h2⟩,?_⟩
 refine .inl ⟨_,fun _=>(isLarge_spec d).ok,?_⟩
 repeat first | refine ⟨id,?_⟩ | refine ⟨fun _ h=>bw_f h,?_⟩ | refine ⟨fun _ h=>bw_t h,?_⟩ | refine ⟨fun h=>⟨h,fun h2=>bw_and h h2⟩,?_⟩ | refine ⟨fun h=>⟨h,fun h2=>bw_andf h h2⟩,?_⟩
 refine ⟨fun h=>?_,fun _=>?_⟩
 ·exfalso
  have h1:decide ((0:Int)≤a)=true:=by simp
  have h2:decide ((a:Int)≤1099511627776)=true:=by simp; omega
  have h3:decide ((0:Int)≤b)=true:=by simp
  have h4:decide ((b:Int)≤1152921504606846976)=true:=by simp; omega
  have h5:decide ((0:Int)≤d)=true:=by simp
  have h6:decide ((d:Int)≤1152921504606846976)=true:=by simp; omega
  have h7:((d:Int) == 0)=false:=by simp; omega
  simp [h1,h2,h3,h4,h5,h6,h7] at h
 ·have hs:=mul64_spec a b (by omega) (by omega)
  rw [Nat.div_eq_of_lt hm,Nat.mod_eq_of_lt hm] at hs
  have hc:CallOk Tryz.prog 82 [.int .u64 (IntKind.u64.wrap a),.int .u64 (IntKind.u64.wrap b)] [U 0,U (a * b)]:=⟨[U a,U b],⟨le_int (m64_wrap a (by omega)),le_int (m64_wrap b (by omega)),tv⟩,hs⟩
  refine .inl ⟨_,fun _=>hc,?_⟩
  have hv:=div64_spec (a * b) d hm hd (by omega)
  have hc2:CallOk Tryz.prog 83 [U 0,U (a * b),.int .u64 (IntKind.u64.wrap d)] [U (a * b / d),U (a * b % d)]:=⟨[U 0,U (a * b),U d],⟨rf,rf,le_int (m64_wrap d (by omega)),tv⟩,hv⟩
  refine ⟨fun h=>?_,fun _=>?_⟩
  ·exfalso
   rw [decide_eq_true_eq,m64_wrap d (by omega)] at h
   have:(d:Int)≤0:=h
   omega
  refine .inl ⟨_,fun _=>hc2,?_⟩
  refine ⟨fun h=>?_,fun _=>⟨rf,rf,rf,tv⟩⟩
  exfalso
  have:(1099511627776:Int)<((a * b / d:Nat):Int):=of_decide_eq_true h
  omega
theorem part_spec (a b d:Nat) (ha:a≤1099511627776) (hb:b≤1152921504606846976) (hd:0<d) (hd2:d≤1152921504606846976) (hm:a * b<18446744073709551616) (hq:a * b / d≤1099511627776) :
  PSpec Tryz.prog 21 [I a,I b,I d] [I (a * b / d:Nat),I 0]:=by
 refine pspec_of tab_ok mixed (calls_snd _) (range_snd _) Tryz.func21 rfl (by kernel_rfl) rfl ?_
 refine .inl ⟨_,fun _=>(divide_spec a b d ha hb hd hd2 hm hq).ok,?_⟩
 have h0:(0:Int)≤((a * b / d:Nat):Int):=Int.natCast_nonneg _
 generalize a * b / d=q at h0 hq
 exact ⟨le_int (IntWalk.i64_in _ (by omega)),rf,tv⟩
end Go.Proofs.YtccialgeakmmpaaGreatDoor
namespace Go.Proofs.YtccialgeakmmpaaGreatDoor
open Go.TM
variable [KObj]
set_option maxRecDepth 100000
def stCn (i:Nat) (its:List Item):List AV:=[.dv (.sl 7 (its.map eItem)),.dv rulesD,.dv tabsD,.dv taxesD,.own i 0 0 []]
def bothK (b w:Int):Boxes:=[(3,.cells (stCn 2 (itemsL b w))),(2,.tree 0 0 (.omap pairK [])),(4,.cells (dvs [.sl 7 (itemsD (I b) (I w)),rulesD,tabsD,taxesD,.nils]))]
set_option maxHeartbeats 4000000 in
theorem both_spec (n k:Int):CSpec Tryz.prog 13 [.dv (I n),.dv (I k)] 0 [] 5 [.ptr 3 0,.ptr 4 0,.dv (B true)] (bothK (around n 3) (1+around k 40)):=by
 refine cspec_of tab_ok mixed (calls_snd _) (range_snd _) Tryz.func13 rfl rfl (by kernel_rfl) ?_
 refine .inl ⟨_,fun _=>cat_spec.ok,?_⟩
 refine .inl ⟨_,fun _=>(binding_spec 2 20 n k).ok,?_⟩
 have hn:=around_bd n 3 (by omega)
 have hk:=around_bd k 40 (by omega)
 refine .inr ⟨[],[ofD (catD (I (around n 3)) (I (1+around k 40)))],[],3,_,_,new_spec (by omega) (by omega),by kernel_rfl,by kernel_rfl,⟨⟨rf,rf,rf,rf,tv⟩,tv⟩,tv,?_⟩
 exact ⟨id,fun _=>bw_t,by kernel_rfl,_,_,⟨rfl,rfl⟩,by kernel_rfl,⟨rfl,rfl,rf,tv⟩,⟨rf,rf,rf,rf,rfl,tv⟩,⟨rfl,rfl⟩,⟨rf,rf,rf,rf,rf,tv⟩,tv⟩
theorem okS_one {its:List Item} {k:Ky} {x:Ob} (h:OkO its x):OkS its [(k,x)]:=by
 intro k' y hy
 simp only [oget] at hy
 split at hy
 ·injection hy with hy; subst hy; exact h
 ·cases hy
def lits:List Item:=itemsL 2 20
theorem lk:OkS lits [((7,0),⟨4,1,20,false⟩)]:=okS_one ⟨by decide,by decide,by decide,by decide,by decide⟩
theorem lk2:OkS lits [((7,0),⟨4,2,20,false⟩)]:=okS_one ⟨by decide,by decide,by decide,by decide,by decide⟩
theorem lk3:OkS lits [((7,0),⟨4,2,15,true⟩)]:=okS_one ⟨by decide,by decide,by decide,by decide,by decide⟩
theorem live_make:CSpec Tryz.prog 29 [.ptr 0 0,ofD (eKy (7,0)),.dv (I 4),.dv (I 1)] 2 (stK lits []) 0 [.dv (I 0)] (stK lits [((7,0),⟨4,1,20,false⟩)]):=make_spec lits [] (7,0) 4 1
theorem live_give:CSpec Tryz.prog 30 [.ptr 0 0,ofD (eKy (7,0)),.dv (I 1),.dv (I 2)] 2 (stK lits [((7,0),⟨4,1,20,false⟩)]) 0 [.dv (I 0)] (stK lits [((7,0),⟨4,2,20,false⟩)]):=giv_spec lits _ (7,0) 1 2 lk
theorem live_use1:CSpec Tryz.prog 31 [.ptr 0 0,ofD (eKy (7,0)),.dv (I 2),.dv (I 2),.dv (I 5)] 2 (stK lits [((7,0),⟨4,2,20,false⟩)]) 0 [.dv (I 12)] (stK lits [((7,0),⟨4,2,20,false⟩)]):=use_spec lits _ (7,0) 2 2 5 lk2
theorem live_use2:CSpec Tryz.prog 31 [.ptr 0 0,ofD (eKy (7,0)),.dv (I 2),.dv (I 3),.dv (I 5)] 2 (stK lits [((7,0),⟨4,2,20,false⟩)]) 0 [.dv (I 0)] (stK lits [((7,0),⟨4,2,15,true⟩)]):=use_spec lits _ (7,0) 2 3 5 lk2
theorem live_give2:CSpec Tryz.prog 30 [.ptr 0 0,ofD (eKy (7,0)),.dv (I 2),.dv (I 1)] 2 (stK lits [((7,0),⟨4,2,15,true⟩)]) 0 [.dv (I 11)] (stK lits [((7,0),⟨4,2,15,true⟩)]):=giv_spec lits _ (7,0) 2 1 lk3
theorem live_get:CSpec Tryz.prog 27 [.ptr 0 0,ofD (eKy (7,0))] 2 (stK lits [((7,0),⟨4,2,15,true⟩)]) 0 [ofD (eOb ⟨4,2,15,true⟩),.dv (B true)] (stK lits [((7,0),⟨4,2,15,true⟩)]):=get_spec lits _ (7,0)
set_option maxHeartbeats 4000000 in
theorem lives_spec:PSpec Tryz.prog 12 [] [B true]:=by
 refine pspec_of tab_ok mixed (calls_snd _) (range_snd _) Tryz.func12 rfl (by kernel_rfl) rfl ?_
 refine .inl ⟨_,fun _=>cat_spec.ok,?_⟩
 refine .inr ⟨[],[ofD (catD (I 2) (I 20))],[],3,_,_,new_spec (by omega) (by omega),by kernel_rfl,by kernel_rfl,⟨⟨rf,rf,rf,rf,tv⟩,tv⟩,tv,?_⟩
 repeat first | refine ⟨id,?_⟩ | refine ⟨fun _ h=>bw_f h,?_⟩ | refine ⟨fun _ h=>bw_t h,?_⟩ | refine ⟨fun h=>⟨h,fun h2=>bw_and h h2⟩,?_⟩ | refine ⟨fun h=>⟨h,fun h2=>bw_andf h h2⟩,?_⟩
 refine ⟨fun h=>(by cases h),fun _=>?_⟩
 refine .inr ⟨[2,1],[.ptr 0 0,ofD (eKy (7,0)),.dv (I 4),.dv (I 1)],stK lits [],0,_,_,live_make,by kernel_rfl,by kernel_rfl,⟨rfl,⟨rf,rf,tv⟩,rf,rf,tv⟩,⟨⟨rf,rf,rf,rf,rfl,tv⟩,⟨rfl,rfl⟩,tv⟩,?_⟩
 refine .inr ⟨[2,1],[.ptr 0 0,ofD (eKy (7,0)),.dv (I 1),.dv (I 2)],stK lits [((7,0),⟨4,1,20,false⟩)],0,_,_,live_give,by kernel_rfl,by kernel_rfl,⟨rfl,⟨rf,rf,tv⟩,rf,rf,tv⟩,⟨⟨rf,rf,rf,rf,rfl,tv⟩,⟨rfl,rfl⟩,tv⟩,?_⟩
 refine .inr ⟨[2,1],[.ptr 0 0,ofD (eKy (7,0)),.dv (I 2),.dv (I 2),.dv (I 5)],stK lits [((7,0),⟨4,2,20,false⟩)],0,_,_,live_use1,by kernel_rfl,by kernel_rfl,⟨rfl,⟨rf,rf,tv⟩,rf,rf,rf,tv⟩,⟨⟨rf,rf,rf,rf,rfl,tv⟩,⟨rfl,rfl⟩,tv⟩,?_⟩
 refine .inr ⟨[2,1],[.ptr 0 0,ofD (eKy (7,0)),.dv (I 2),.dv (I 3),.dv (I 5)],stK lits [((7,0),⟨4,2,20,false⟩)],0,_,_,live_use2,by kernel_rfl,by kernel_rfl,⟨rfl,⟨rf,rf,tv⟩,rf,rf,rf,tv⟩,⟨⟨rf,rf,rf,rf,rfl,tv⟩,⟨rfl,rfl⟩,tv⟩,?_⟩
 refine .inr ⟨[2,1],[.ptr 0 0,ofD (eKy (7,0)),.dv (I 2),.dv (I 1)],stK lits [((7,0),⟨4,2,15,true⟩)],0,_,_,live_give2,by kernel_rfl,by kernel_rfl,⟨rfl,⟨rf,rf,tv⟩,rf,rf,tv⟩,⟨⟨rf,rf,rf,rf,rfl,tv⟩,⟨rfl,rfl⟩,tv⟩,?_⟩
 refine .inr ⟨[2,1],[.ptr 0 0,ofD (eKy (7,0))],stK lits [((7,0),⟨4,2,15,true⟩)],0,_,_,live_get,by kernel_rfl,by kernel_rfl,⟨rfl,⟨rf,rf,tv⟩,tv⟩,⟨⟨rf,rf,rf,rf,rfl,tv⟩,⟨rfl,rfl⟩,tv⟩,?_⟩
 repeat first | refine ⟨id,?_⟩ | refine ⟨fun _ h=>bw_f h,?_⟩ | refine ⟨fun _ h=>bw_t h,?_⟩ | refine ⟨fun h=>⟨h,fun h2=>bw_and h h2⟩,?_⟩ | refine ⟨fun h=>⟨h,fun h2=>bw_andf h h2⟩,?_⟩
 exact ⟨rf,tv⟩
end Go.Proofs.YtccialgeakmmpaaGreatDoor
namespace Go.Proofs.YtccialgeakmmpaaGreatDoor
open Go.TM
def eRo (p:Ky × Ob):DV:=.agg [I p.1.1,I p.1.2,I p.2.item,I p.2.owner,I p.2.wear,B p.2.bound]
def rfC (its:List Item) (v:Nat):List AV:=[.dv (.sl 7 (its.map eItem)),.dv rulesD,.dv tabsD,.dv taxesD,.own 1 v 0 []]
def rfK (its:List Item) (L:OM) (v:Nat):Boxes:=[(0,.cells (rfC its v)),(1,.tree v 0 (.osl 6 (L.map eRo)))]
def kI (its:List Item) (i:Int):Item:=if i<0 ∨ (its.length:Int)≤i then Item.zero else its.getD i.toNat Item.zero
def fidx:OM→Ky→Nat
 | [],_=>0
 | p::r,k=>if p.1=k then 0 else fidx r k+1
def findI (L:OM) (k:Ky):Int:=if fidx L k<L.length then fidx L k else -1
theorem fidx_le:∀(L:OM) (k:Ky),fidx L k≤L.length
 | [],_=>by simp [fidx]
 | p::r,k=>by
  simp only [fidx]
  split
  ·simp
  ·have:=fidx_le r k; simp; omega
theorem fidx_at:∀(L:OM) (k:Ky) (j:Nat) (p:Ky × Ob),(∀(i:Nat) (q:Ky × Ob),i<j→L[i]?=some q→q.1 ≠ k)→L[j]?=some p→p.1=k→fidx L k=j
 | [],_,j,p,_,h,_=>by simp at h
 | q::r,k,0,p,_,h,e=>by
  simp at h; subst h
  simp [fidx,e]
 | q::r,k,j+1,p,hn,h,e=>by
  have h0:=hn 0 q (by omega) rfl
  have ih:=fidx_at r k j p (fun i q' hi hq=>hn (i+1) q' (by omega) (by simpa using hq)) (by simpa using h) e
  simp only [fidx,if_neg h0,ih]
theorem fidx_no:∀(L:OM) (k:Ky),(∀(i:Nat) (q:Ky × Ob),L[i]?=some q→q.1 ≠ k)→fidx L k=L.length
 | [],_,_=>rfl
 | q::r,k,hn=>by
  have h0:=hn 0 q rfl
  have ih:=fidx_no r k fun i q' hq=>hn (i+1) q' (by simpa using hq)
  simp only [fidx,if_neg h0,ih,List.length_cons]
theorem fidx_get:∀(L:OM) (k:Ky),oget L k=(L[fidx L k]?).map Prod.snd
 | [],_=>rfl
 | q::r,k=>by
  simp only [oget,fidx]
  by_cases e:q.1=k
  ·simp [e]
  ·rw [if_neg e,if_neg e,List.getElem?_cons_succ]; exact fidx_get r k
theorem fidx_key:∀(L:OM) (k:Ky) (p:Ky × Ob),L[fidx L k]?=some p→p.1=k
 | [],_,p,h=>by simp [fidx] at h
 | q::r,k,p,h=>by
  simp only [fidx] at h
  by_cases e:q.1=k
  ·rw [if_pos e] at h; simp at h; subst h; exact e
  ·rw [if_neg e,List.getElem?_cons_succ] at h; exact fidx_key r k p h
variable [KObj]
set_option maxRecDepth 100000
set_option maxHeartbeats 4000000 in
theorem kind_spec (its:List Item) (L:OM) (i:Int):CSpec Tryz.prog 23 [.ptr 0 0,.dv (I i)] 2 (rfK its L 0) 0 [ofD (eItem (kI its i)),.dv (B (typeOf its i).isSome)] (rfK its L 0):=by
 refine cspec_of tab_ok mixed (calls_snd _) (range_snd _) Tryz.func23 rfl rfl (by kernel_rfl) ?_
 repeat first | refine ⟨id,?_⟩ | refine ⟨fun _ h=>bw_f h,?_⟩ | refine ⟨fun _ h=>bw_t h,?_⟩ | refine ⟨fun h=>⟨h,fun h2=>bw_and h h2⟩,?_⟩ | refine ⟨fun h=>⟨h,fun h2=>bw_andf h h2⟩,?_⟩
 refine ⟨fun h=>?_,fun h=>?_⟩
 ·have hc:i<0 ∨ (its.length:Int)≤i:=by
   by_cases h0:i<0
   ·exact .inl h0
   ·simp [h0] at h; exact .inr h
  have e1:kI its i=Item.zero:=by unfold kI; rw [if_pos hc]
  have e2:(typeOf its i).isSome=false:=by
   unfold typeOf
   split
   ·rfl
   ·rw [List.getElem?_eq_none (by omega)]; rfl
  rw [e1,e2]
  exact ⟨_,_,⟨rfl,rfl⟩,by kernel_rfl,⟨⟨rf,rf,rf,rf,rf,rf,rf,tv⟩,rf,tv⟩,⟨rf,rf,rf,rf,rfl,tv⟩,⟨rfl,rfl⟩,tv⟩
 ·have h0:¬ i<0:=fun h0=>by simp [h0] at h
  have h1:¬ (its.length:Int)≤i:=fun h1=>by simp [h1] at h
  have e1:kI its i=its.getD i.toNat Item.zero:=by unfold kI; rw [if_neg (by omega)]
  have e2:(typeOf its i).isSome=(its.getD i.toNat Item.zero).obj:=by
   unfold typeOf
   rw [if_neg h0]
   have hlt:i.toNat<its.length:=by omega
   rw [List.getElem?_eq_getElem hlt,List.getD_eq_getElem?_getD,List.getElem?_eq_getElem hlt]
   simp only [Option.getD_some]
   cases its[i.toNat].obj <;> rfl
  rw [e1,e2]
  refine ⟨eItem (its.getD i.toNat Item.zero),fun _=>⟨by omega,item_at h0 h1⟩,?_⟩
  refine ⟨eItem (its.getD i.toNat Item.zero),fun _=>⟨by omega,item_at h0 h1⟩,?_⟩
  exact ⟨by kernel_rfl,_,_,⟨rfl,rfl⟩,by kernel_rfl,⟨⟨rf,rf,rf,rf,rf,rf,rf,tv⟩,rf,tv⟩,⟨rf,rf,rf,rf,rfl,tv⟩,⟨rfl,rfl⟩,tv⟩
set_option maxHeartbeats 4000000 in
theorem find_spec (its:List Item) (L:OM) (hl:L.length≤1000000) (a b:Int):CSpec Tryz.prog 63 [.ptr 0 0,.dv (I a),.dv (I b)] 2 (rfK its L 0) 0 [.dv (I (findI L (a,b)))] (rfK its L 0):=by
 refine cspec_of tab_ok mixed (calls_snd _) (range_snd _) Tryz.func63 rfl rfl (by kernel_rfl) ?_
 refine ⟨Nat,fun j=>⟨2,[(0,.ptr 0 0),(1,.dv (I a)),(2,.dv (I b)),(7,.dv (I j))],rfK its L 0⟩,fun j=>j≤L.length∧∀i q,i<j→L[i]?=some q→q.1 ≠ (a,b),fun j=>L.length - j,0,fun _=>rfl,⟨⟨rfl,rf,rf,rf,tv⟩,⟨⟨rf,rf,rf,rf,rfl,tv⟩,⟨rfl,rfl⟩,tv⟩,rfl,rfl⟩,⟨Nat.zero_le _,fun i q h=>by omega⟩,?_⟩
 rintro j ⟨hj,hn⟩
 refine ⟨fun h=>?_,fun h=>?_⟩
 ·have hlt:j<L.length:=by simpa using h
  clear h
  have hel:(L.map eRo)[(j:Int).toNat]?=some (eRo L[j]):=by simp [hlt]
  refine ⟨fun _=>⟨by omega,by simp; omega⟩,eRo L[j],fun _=>hel,?_⟩
  repeat first | refine ⟨id,?_⟩ | refine ⟨fun _ h=>bw_f h,?_⟩ | refine ⟨fun _ h=>bw_t h,?_⟩ | refine ⟨fun h=>⟨h,fun h2=>bw_and h h2⟩,?_⟩ | refine ⟨fun h=>⟨h,fun h2=>bw_andf h h2⟩,?_⟩
  refine ⟨fun _=>⟨by omega,by simp; omega⟩,id,id,eRo L[j],fun _=>hel,?_⟩
  repeat first | refine ⟨id,?_⟩ | refine ⟨fun _ h=>bw_f h,?_⟩ | refine ⟨fun _ h=>bw_t h,?_⟩ | refine ⟨fun h=>⟨h,fun h2=>bw_and h h2⟩,?_⟩ | refine ⟨fun h=>⟨h,fun h2=>bw_andf h h2⟩,?_⟩
  refine ⟨fun h=>?_,fun h=>?_⟩
  ·have hk:L[j].1=(a,b):=by
    have h':(bif L[j].1.1 == a then L[j].1.2 == b else false)=true:=h
    have h1:L[j].1.1=a:=by cases hq:(L[j].1.1 == a) <;> simp_all
    have h2:L[j].1.2=b:=by simp [h1] at h'; exact h'
    exact Prod.ext h1 h2
   have e:findI L (a,b)=j:=by
    unfold findI
    rw [fidx_at L (a,b) j L[j] hn (List.getElem?_eq_getElem hlt) hk,if_pos hlt]
   rw [e]
   exact ⟨_,_,⟨rfl,rfl⟩,by kernel_rfl,⟨rf,tv⟩,⟨rf,rf,rf,rf,rfl,tv⟩,⟨rfl,rfl⟩,tv⟩
  ·have hk:¬ L[j].1=(a,b):=by
    intro e
    have h':(bif L[j].1.1 == a then L[j].1.2 == b else false)=false:=h
    rw [e] at h'
    simp at h'
   refine ⟨fun _=>⟨by omega,by omega⟩,j+1,⟨⟨rfl,rf,rf,le_int (by simp),tv⟩,⟨⟨rf,rf,rf,rf,rfl,tv⟩,⟨rfl,rfl⟩,tv⟩,rfl,rfl⟩,⟨by omega,fun i q hi hq=>?_⟩,by show L.length - (j+1)<L.length - j; omega⟩
   by_cases e:i=j
   ·subst e
    rw [List.getElem?_eq_getElem hlt] at hq; injection hq with hq; subst hq; exact hk
   ·exact hn i q (by omega) hq
 ·have he:¬ j<L.length:=by simpa using h
  have e:findI L (a,b)=-1:=by
   unfold findI
   rw [fidx_no L (a,b) (fun i q hq=>hn i q (by have:=(List.getElem?_eq_some_iff.1 hq).1; omega) hq)]
   simp
  rw [e]
  exact ⟨_,_,⟨rfl,rfl⟩,by kernel_rfl,⟨rf,tv⟩,⟨rf,rf,rf,rf,rfl,tv⟩,⟨rfl,rfl⟩,tv⟩
theorem oput_set:∀(L:OM) (k:Ky) (x:Ob),fidx L k<L.length→oput L k x=L.set (fidx L k) (k,x)
 | [],_,_,h=>by simp [fidx] at h
 | p::r,k,x,h=>by
  simp only [fidx] at h
  simp only [oput,fidx]
  by_cases e:p.1=k
  ·rw [if_pos e,if_pos e]; rfl
  ·rw [if_neg e] at h
   rw [if_neg e,if_neg e,List.set_cons_succ,oput_set r k x (by simpa using h)]
theorem odel_take:∀(L:OM) (k:Ky),odel L k=L.take (fidx L k)++L.drop (fidx L k+1)
 | [],_=>rfl
 | p::r,k=>by
  simp only [odel,fidx]
  by_cases e:p.1=k
  ·rw [if_pos e,if_pos e]; rfl
  ·rw [if_neg e,if_neg e]
   simp only [List.take_succ_cons,List.drop_succ_cons,List.cons_append]
   rw [←odel_take r k]
theorem fidx_some {L:OM} {k:Ky} {x:Ob} (h:oget L k=some x):fidx L k<L.length∧L[fidx L k]?=some (k,x):=by
 rw [fidx_get] at h
 cases hq:L[fidx L k]? with
 | none=>rw [hq] at h; cases h
 | some p =>
  rw [hq] at h
  have h1:=fidx_key L k p hq
  obtain ⟨k',x'⟩:=p
  simp at h h1
  subst h; subst h1
  exact ⟨(List.getElem?_eq_some_iff.1 hq).1,rfl⟩
theorem fidx_none {L:OM} {k:Ky} (h:oget L k=none):¬ fidx L k<L.length:=by
 intro hlt
 rw [fidx_get,List.getElem?_eq_getElem hlt] at h
 cases h
set_option maxHeartbeats 4000000 in
theorem own_spec (its:List Item) (L:OM) (hl:L.length≤1000000) (k:Ky) (ow:Int):CSpec Tryz.prog 62 [.ptr 0 0,.dv (I k.1),.dv (I k.2),.dv (I ow)] 2 (rfK its L 0) 0 [.dv (I (findI L k)),.dv (I (ownR its L k ow).2.2)] (rfK its L 0):=by
 refine cspec_of tab_ok mixed (calls_snd _) (range_snd _) Tryz.func62 rfl rfl (by kernel_rfl) ?_
 have hf:=find_spec its L hl k.1 k.2
 rw [show (k.1,k.2)=k from rfl] at hf
 cases hq:oget L k with
 | none =>
  have e1:findI L k=-1:=by unfold findI; rw [if_neg (fidx_none hq)]
  have e2:(ownR its L k ow).2.2=7:=by simp [ownR,hq]
  rw [e1] at hf
  rw [e1,e2]
  refine .inr ⟨[0,1],[.ptr 0 0,.dv (I k.1),.dv (I k.2)],rfK its L 0,0,_,_,hf,by kernel_rfl,by kernel_rfl,⟨rfl,rf,rf,tv⟩,⟨⟨rf,rf,rf,rf,rfl,tv⟩,⟨rfl,rfl⟩,tv⟩,?_⟩
  refine ⟨fun _=>?_,fun h=>by cases h⟩
  exact ⟨_,_,⟨rfl,rfl⟩,by kernel_rfl,⟨rf,rf,tv⟩,⟨rf,rf,rf,rf,rfl,tv⟩,⟨rfl,rfl⟩,tv⟩
 | some x =>
  obtain ⟨hlt,hat⟩:=fidx_some hq
  have e1:findI L k=(fidx L k:Nat):=by unfold findI; rw [if_pos hlt]
  rw [e1] at hf
  rw [e1]
  have hel:(L.map eRo)[((fidx L k:Nat):Int).toNat]?=some (eRo (k,x)):=by simp [hat]
  generalize fidx L k=i at hf hlt hat hel
  refine .inr ⟨[0,1],[.ptr 0 0,.dv (I k.1),.dv (I k.2)],rfK its L 0,0,_,_,hf,by kernel_rfl,by kernel_rfl,⟨rfl,rf,rf,tv⟩,⟨⟨rf,rf,rf,rf,rfl,tv⟩,⟨rfl,rfl⟩,tv⟩,?_⟩
  refine ⟨fun h=>?_,fun _=>?_⟩
  ·have h':(i:Int)<0:=of_decide_eq_true h
   omega
  refine ⟨fun _=>⟨by omega,by simp; omega⟩,eRo (k,x),fun _=>hel,?_⟩
  refine ⟨fun h=>?_,fun h=>?_⟩
  ·have hne:¬ x.owner=ow:=by simpa using h
   have e2:(ownR its L k ow).2.2=15:=by simp [ownR,hq,hne]
   rw [e2]
   exact ⟨_,_,⟨rfl,rfl⟩,by kernel_rfl,⟨rf,rf,tv⟩,⟨rf,rf,rf,rf,rfl,tv⟩,⟨rfl,rfl⟩,tv⟩
  ·have hne:x.owner=ow:=by simpa using h
   have e2:(ownR its L k ow).2.2=0:=by simp [ownR,hq,hne]
   rw [e2]
   exact ⟨_,_,⟨rfl,rfl⟩,by kernel_rfl,⟨rf,rf,tv⟩,⟨rf,rf,rf,rf,rfl,tv⟩,⟨rfl,rfl⟩,tv⟩
end Go.Proofs.YtccialgeakmmpaaGreatDoor
namespace Go.Proofs.YtccialgeakmmpaaGreatDoor
open Go.TM
def pick (l:List Int) (i m:Int):Int:=if i<0 then 0 else match l[i.toNat]? with | some x=>around x m | none=>0
structure Op where
 kind:Int
 flow:Int
 pos:Int
 item:Int
 owner:Int
 wear:Int
 bound:Bool
 a:Int
 b:Int
def eOp (o:Op):DV:=.agg [I o.kind,I o.flow,I o.pos,I o.item,I o.owner,I o.wear,B o.bound,I o.a,I o.b]
def kindsL:List Int:=[0,0,0,1,1,2,2,3,4,5]
def opAt (l:List Int) (i:Int):Op where
 kind:=kindsL.getD (pick l (6 * i) 10).toNat 0
 flow:=pick l (6 * i+3) 3
 pos:=if pick l (6 * i+5) 13=5 then -1 else pick l (6 * i+3) 2
 item:=if pick l (6 * i+4) 11=5 then pick l (6 * i+5) 7 - 1 else 4
 owner:=1+pick l (6 * i+4) 3
 wear:=pick l (6 * i+5) 22
 bound:=pick l (6 * i+5) 2 == 0
 a:=if pick l (6 * i+2) 17=3 then 1073741825 else pick l (6 * i+1) 5
 b:=pick l (6 * i+2) 9
def opsN (l:List Int):Nat→List Op
 | 0=>[]
 | k+1=>opsN l k++[opAt l k]
theorem opsN_len (l:List Int):∀k,(opsN l k).length=k
 | 0=>rfl
 | k+1=>by simp [opsN,opsN_len l k]
def opsK (l:List Int):Nat:=min 20 ((l.length+5) / 6)
def opsL (l:List Int):List Op:=opsN l (opsK l)
theorem pick_bd (l:List Int) (i m:Int) (hm:1≤m):0≤pick l i m∧pick l i m<m:=by
 unfold pick
 split
 ·omega
 ·split
  ·exact around_bd _ m hm
  ·omega
variable [KObj]
set_option maxRecDepth 100000
theorem pick_spec (l:List Int) (i m:Int) (hm:1≤m) (hm2:m≤1000000):PSpec Tryz.prog 17 [Ints l,I i,I m] [I (pick l i m)]:=by
 refine pspec_of tab_ok mixed (calls_snd _) (range_snd _) Tryz.func17 rfl (by kernel_rfl) rfl ?_
 repeat first | refine ⟨id,?_⟩ | refine ⟨fun _ h=>bw_f h,?_⟩ | refine ⟨fun _ h=>bw_t h,?_⟩ | refine ⟨fun h=>⟨h,fun h2=>bw_and h h2⟩,?_⟩ | refine ⟨fun h=>⟨h,fun h2=>bw_andf h h2⟩,?_⟩
 refine ⟨fun h=>?_,fun h=>?_⟩
 ·refine ⟨le_int ?_,tv⟩
  unfold pick
  split
  ·rfl
  ·rename_i hi
   have hm':¬ m<1:=by omega
   have:(l.length:Int)≤i:=by simpa [hi,hm'] using h
   rw [List.getElem?_eq_none (by omega)]
 ·have hi:¬ i<0:=fun hi=>by simp [hi] at h
  have hi2:¬ (l.length:Int)≤i:=fun hi2=>by simp [hi,hi2] at h
  have hlt:i.toNat<l.length:=by omega
  refine ⟨I l[i.toNat],fun _=>⟨by omega,by simp [hlt]⟩,?_⟩
  refine .inl ⟨_,fun _=>(around_spec _ m hm (by omega)).ok,le_int ?_,tv⟩
  unfold pick
  rw [if_neg hi,List.getElem?_eq_getElem hlt]
theorem by27:(nth tab (nth tab 49).elem).bytes=72:=rfl
set_option maxHeartbeats 4000000 in
theorem ops_spec (l:List Int):PSpec Tryz.prog 14 [Ints l] [.sl 9 ((opsL l).map eOp)]:=by
 refine pspec_of tab_ok mixed (calls_snd _) (range_snd _) Tryz.func14 rfl (by kernel_rfl) rfl ?_
 refine ⟨Nat,fun k=>⟨1,[(0,.dv (Ints l)),(3,.own 0 0 0 []),(4,.dv (I k))],[(0,.tree 0 0 (.osl 9 ((opsN l k).map eOp)))]⟩,fun k=>k≤opsK l,fun k=>opsK l - k,0,fun _=>rfl,⟨⟨rf,⟨rfl,rfl,rfl,rfl,9,rfl⟩,rf,tv⟩,⟨⟨rfl,rfl,9,rfl⟩,tv⟩,rfl,rfl⟩,by omega,?_⟩
 intro k hk
 have hK:opsK l≤20:=by unfold opsK; omega
 refine ⟨id,fun _=>⟨by omega,by omega⟩,id,id,id,fun _ h=>bw_t h,fun h=>?_,fun h=>?_⟩
 ·obtain ⟨h1,h2⟩:=bif_t h
  have h1:(k:Int)<20:=of_decide_eq_true h1
  have h2:6 * (k:Int)<l.length:=by simpa using h2
  clear h
  have hk1:k+1≤opsK l:=by unfold opsK; omega
  refine ⟨fun _=>⟨by omega,by omega⟩,?_⟩
  refine .inl ⟨kindsL.map I,rfl,⟨rf,rf,rf,rf,rf,rf,rf,rf,rf,rf,tv⟩,(fun x hx=>by
   obtain ⟨n,_,rfl⟩:=List.mem_map.1 hx
   rfl),?_⟩
  have b0:=pick_bd l (6 * k) 10 (by omega)
  have b1:=pick_bd l (6 * k+1) 5 (by omega)
  have b4:=pick_bd l (6 * k+4) 3 (by omega)
  have b7:=pick_bd l (6 * k+5) 7 (by omega)
  refine .inl ⟨_,fun _=>(pick_spec l (6 * k) 10 (by omega) (by omega)).ok,?_⟩
  refine ⟨I (kindsL.getD (pick l (6 * k) 10).toNat 0),fun _=>⟨b0.1,?_⟩,?_⟩
  ·have:(pick l (6 * k) 10).toNat<kindsL.length:=by show _<10; omega
   rw [List.getElem?_map,List.getElem?_eq_getElem this,List.getD_eq_getElem?_getD,List.getElem?_eq_getElem this]; rfl
  refine ⟨fun _=>⟨by omega,by omega⟩,.inl ⟨_,fun _=>(pick_spec l (6 * k+1) 5 (by omega) (by omega)).ok,?_⟩⟩
  refine ⟨fun _=>⟨by omega,by omega⟩,.inl ⟨_,fun _=>(pick_spec l (6 * k+2) 9 (by omega) (by omega)).ok,?_⟩⟩
  refine ⟨by kernel_rfl,⟨fun _=>⟨by omega,by omega⟩,.inl ⟨_,fun _=>(pick_spec l (6 * k+3) 3 (by omega) (by omega)).ok,?_⟩⟩⟩
  refine ⟨fun _=>⟨by omega,by omega⟩,.inl ⟨_,fun _=>(pick_spec l (6 * k+3) 2 (by omega) (by omega)).ok,?_⟩⟩
  refine ⟨fun _=>⟨by omega,by omega⟩,.inl ⟨_,fun _=>(pick_spec l (6 * k+4) 3 (by omega) (by omega)).ok,?_⟩⟩
  refine ⟨fun _=>⟨by omega,by omega⟩,?_⟩
  refine ⟨fun _=>⟨by omega,by omega⟩,.inl ⟨_,fun _=>(pick_spec l (6 * k+5) 22 (by omega) (by omega)).ok,?_⟩⟩
  refine ⟨fun _=>⟨by omega,by omega⟩,.inl ⟨_,fun _=>(pick_spec l (6 * k+5) 2 (by omega) (by omega)).ok,?_⟩⟩
  refine ⟨fun _=>⟨by omega,by omega⟩,.inl ⟨_,fun _=>(pick_spec l (6 * k+4) 11 (by omega) (by omega)).ok,?_⟩⟩
  refine And.intro ?_ ?_
  ·intro h4
   have h4':(pick l (6 * k+4) 11 == 5)=true:=h4
   have hA:pick l (6 * k+4) 11=5:=by simpa using h4'
   clear h4 h4'
   refine ⟨fun _=>⟨by omega,by omega⟩,.inl ⟨_,fun _=>(pick_spec l (6 * k+5) 7 (by omega) (by omega)).ok,?_⟩⟩
   refine ⟨fun _=>⟨by omega,by omega⟩,?_⟩
   refine ⟨fun _=>⟨by omega,by omega⟩,.inl ⟨_,fun _=>(pick_spec l (6 * k+5) 13 (by omega) (by omega)).ok,?_⟩⟩
   refine And.intro ?_ ?_
   ·intro h5
    have h5':(pick l (6 * k+5) 13 == 5)=true:=h5
    have hB:pick l (6 * k+5) 13=5:=by simpa using h5'
    clear h5 h5'
    refine ⟨fun _=>⟨by omega,by omega⟩,.inl ⟨_,fun _=>(pick_spec l (6 * k+2) 17 (by omega) (by omega)).ok,?_⟩⟩
    refine And.intro ?_ ?_
    ·intro h6
     have h6':(pick l (6 * k+2) 17 == 3)=true:=h6
     have hC:pick l (6 * k+2) 17=3:=by simpa using h6'
     clear h6 h6'
     refine .inl ⟨[eOp (opAt l k)],rfl,⟨rf,rf,le_int (by simp [opAt,hB]),le_int (by simp [opAt,hA]),rf,rf,DV.Le.of_eq (by simp [opAt]),le_int (by simp [opAt,hC]),rf,tv⟩,(fun x hx=>by rcases List.mem_singleton.1 hx with rfl; rfl),?_⟩
     refine .inr ⟨[eOp (opAt l k)],ELes.refl _,(by rw [by27]; simp [opsN_len]; omega),(by simp [opsN_len]; omega),?_⟩
     exact ⟨fun _=>⟨by omega,by omega⟩,k+1,⟨⟨rf,rfl,le_int (by omega),tv⟩,⟨⟨rfl,by simp [opsN]⟩,tv⟩,rfl,rfl⟩,hk1,(by show opsK l - (k+1)<opsK l - k; omega)⟩
    ·intro h6
     have h6':(pick l (6 * k+2) 17 == 3)=false:=h6
     have hC:¬ pick l (6 * k+2) 17=3:=by simpa using h6'
     clear h6 h6'
     refine .inl ⟨[eOp (opAt l k)],rfl,⟨rf,rf,le_int (by simp [opAt,hB]),le_int (by simp [opAt,hA]),rf,rf,DV.Le.of_eq (by simp [opAt]),le_int (by simp [opAt,hC]),rf,tv⟩,(fun x hx=>by rcases List.mem_singleton.1 hx with rfl; rfl),?_⟩
     refine .inr ⟨[eOp (opAt l k)],ELes.refl _,(by rw [by27]; simp [opsN_len]; omega),(by simp [opsN_len]; omega),?_⟩
     exact ⟨fun _=>⟨by omega,by omega⟩,k+1,⟨⟨rf,rfl,le_int (by omega),tv⟩,⟨⟨rfl,by simp [opsN]⟩,tv⟩,rfl,rfl⟩,hk1,(by show opsK l - (k+1)<opsK l - k; omega)⟩
   ·intro h5
    have h5':(pick l (6 * k+5) 13 == 5)=false:=h5
    have hB:¬ pick l (6 * k+5) 13=5:=by simpa using h5'
    clear h5 h5'
    refine ⟨fun _=>⟨by omega,by omega⟩,.inl ⟨_,fun _=>(pick_spec l (6 * k+2) 17 (by omega) (by omega)).ok,?_⟩⟩
    refine And.intro ?_ ?_
    ·intro h6
     have h6':(pick l (6 * k+2) 17 == 3)=true:=h6
     have hC:pick l (6 * k+2) 17=3:=by simpa using h6'
     clear h6 h6'
     refine .inl ⟨[eOp (opAt l k)],rfl,⟨rf,rf,le_int (by simp [opAt,hB]),le_int (by simp [opAt,hA]),rf,rf,DV.Le.of_eq (by simp [opAt]),le_int (by simp [opAt,hC]),rf,tv⟩,(fun x hx=>by rcases List.mem_singleton.1 hx with rfl; rfl),?_⟩
     refine .inr ⟨[eOp (opAt l k)],ELes.refl _,(by rw [by27]; simp [opsN_len]; omega),(by simp [opsN_len]; omega),?_⟩
     exact ⟨fun _=>⟨by omega,by omega⟩,k+1,⟨⟨rf,rfl,le_int (by omega),tv⟩,⟨⟨rfl,by simp [opsN]⟩,tv⟩,rfl,rfl⟩,hk1,(by show opsK l - (k+1)<opsK l - k; omega)⟩
    ·intro h6
     have h6':(pick l (6 * k+2) 17 == 3)=false:=h6
     have hC:¬ pick l (6 * k+2) 17=3:=by simpa using h6'
     clear h6 h6'
     refine .inl ⟨[eOp (opAt l k)],rfl,⟨rf,rf,le_int (by simp [opAt,hB]),le_int (by simp [opAt,hA]),rf,rf,DV.Le.of_eq (by simp [opAt]),le_int (by simp [opAt,hC]),rf,tv⟩,(fun x hx=>by rcases List.mem_singleton.1 hx with rfl; rfl),?_⟩
     refine .inr ⟨[eOp (opAt l k)],ELes.refl _,(by rw [by27]; simp [opsN_len]; omega),(by simp [opsN_len]; omega),?_⟩
     exact ⟨fun _=>⟨by omega,by omega⟩,k+1,⟨⟨rf,rfl,le_int (by omega),tv⟩,⟨⟨rfl,by simp [opsN]⟩,tv⟩,rfl,rfl⟩,hk1,(by show opsK l - (k+1)<opsK l - k; omega)⟩
  ·intro h4
   have h4':(pick l (6 * k+4) 11 == 5)=false:=h4
   have hA:¬ pick l (6 * k+4) 11=5:=by simpa using h4'
   clear h4 h4'
   refine ⟨fun _=>⟨by omega,by omega⟩,.inl ⟨_,fun _=>(pick_spec l (6 * k+5) 13 (by omega) (by omega)).ok,?_⟩⟩
   refine And.intro ?_ ?_
   ·intro h5
    have h5':(pick l (6 * k+5) 13 == 5)=true:=h5
    have hB:pick l (6 * k+5) 13=5:=by simpa using h5'
    clear h5 h5'
    refine ⟨fun _=>⟨by omega,by omega⟩,.inl ⟨_,fun _=>(pick_spec l (6 * k+2) 17 (by omega) (by omega)).ok,?_⟩⟩
    refine And.intro ?_ ?_
    ·intro h6
     have h6':(pick l (6 * k+2) 17 == 3)=true:=h6
     have hC:pick l (6 * k+2) 17=3:=by simpa using h6'
     clear h6 h6'
     refine .inl ⟨[eOp (opAt l k)],rfl,⟨rf,rf,le_int (by simp [opAt,hB]),le_int (by simp [opAt,hA]),rf,rf,DV.Le.of_eq (by simp [opAt]),le_int (by simp [opAt,hC]),rf,tv⟩,(fun x hx=>by rcases List.mem_singleton.1 hx with rfl; rfl),?_⟩
     refine .inr ⟨[eOp (opAt l k)],ELes.refl _,(by rw [by27]; simp [opsN_len]; omega),(by simp [opsN_len]; omega),?_⟩
     exact ⟨fun _=>⟨by omega,by omega⟩,k+1,⟨⟨rf,rfl,le_int (by omega),tv⟩,⟨⟨rfl,by simp [opsN]⟩,tv⟩,rfl,rfl⟩,hk1,(by show opsK l - (k+1)<opsK l - k; omega)⟩
    ·intro h6
     have h6':(pick l (6 * k+2) 17 == 3)=false:=h6
     have hC:¬ pick l (6 * k+2) 17=3:=by simpa using h6'
     clear h6 h6'
     refine .inl ⟨[eOp (opAt l k)],rfl,⟨rf,rf,le_int (by simp [opAt,hB]),le_int (by simp [opAt,hA]),rf,rf,DV.Le.of_eq (by simp [opAt]),le_int (by simp [opAt,hC]),rf,tv⟩,(fun x hx=>by rcases List.mem_singleton.1 hx with rfl; rfl),?_⟩
     refine .inr ⟨[eOp (opAt l k)],ELes.refl _,(by rw [by27]; simp [opsN_len]; omega),(by simp [opsN_len]; omega),?_⟩
     exact ⟨fun _=>⟨by omega,by omega⟩,k+1,⟨⟨rf,rfl,le_int (by omega),tv⟩,⟨⟨rfl,by simp [opsN]⟩,tv⟩,rfl,rfl⟩,hk1,(by show opsK l - (k+1)<opsK l - k; omega)⟩
   ·intro h5
    have h5':(pick l (6 * k+5) 13 == 5)=false:=h5
    have hB:¬ pick l (6 * k+5) 13=5:=by simpa using h5'
    clear h5 h5'
    refine ⟨fun _=>⟨by omega,by omega⟩,.inl ⟨_,fun _=>(pick_spec l (6 * k+2) 17 (by omega) (by omega)).ok,?_⟩⟩
    refine And.intro ?_ ?_
    ·intro h6
     have h6':(pick l (6 * k+2) 17 == 3)=true:=h6
     have hC:pick l (6 * k+2) 17=3:=by simpa using h6'
     clear h6 h6'
     refine .inl ⟨[eOp (opAt l k)],rfl,⟨rf,rf,le_int (by simp [opAt,hB]),le_int (by simp [opAt,hA]),rf,rf,DV.Le.of_eq (by simp [opAt]),le_int (by simp [opAt,hC]),rf,tv⟩,(fun x hx=>by rcases List.mem_singleton.1 hx with rfl; rfl),?_⟩
     refine .inr ⟨[eOp (opAt l k)],ELes.refl _,(by rw [by27]; simp [opsN_len]; omega),(by simp [opsN_len]; omega),?_⟩
     exact ⟨fun _=>⟨by omega,by omega⟩,k+1,⟨⟨rf,rfl,le_int (by omega),tv⟩,⟨⟨rfl,by simp [opsN]⟩,tv⟩,rfl,rfl⟩,hk1,(by show opsK l - (k+1)<opsK l - k; omega)⟩
    ·intro h6
     have h6':(pick l (6 * k+2) 17 == 3)=false:=h6
     have hC:¬ pick l (6 * k+2) 17=3:=by simpa using h6'
     clear h6 h6'
     refine .inl ⟨[eOp (opAt l k)],rfl,⟨rf,rf,le_int (by simp [opAt,hB]),le_int (by simp [opAt,hA]),rf,rf,DV.Le.of_eq (by simp [opAt]),le_int (by simp [opAt,hC]),rf,tv⟩,(fun x hx=>by rcases List.mem_singleton.1 hx with rfl; rfl),?_⟩
     refine .inr ⟨[eOp (opAt l k)],ELes.refl _,(by rw [by27]; simp [opsN_len]; omega),(by simp [opsN_len]; omega),?_⟩
     exact ⟨fun _=>⟨by omega,by omega⟩,k+1,⟨⟨rf,rfl,le_int (by omega),tv⟩,⟨⟨rfl,by simp [opsN]⟩,tv⟩,rfl,rfl⟩,hk1,(by show opsK l - (k+1)<opsK l - k; omega)⟩
 ·have he:k=opsK l:=by
   have:=bif_f h
   have h3:¬ (k<20∧6 * k<l.length):=fun ⟨h4,h5⟩=>this ⟨by simp; omega,by simp; omega⟩
   unfold opsK at *
   omega
  subst he
  refine ⟨DV.Le.of_eq ?_,tv⟩
  show DV.sl 9 (fzL ((opsN l (opsK l)).map eOp))=_
  rw [fzL_map (fun _=>rfl)]; rfl
end Go.Proofs.YtccialgeakmmpaaGreatDoor
namespace Go.Proofs.YtccialgeakmmpaaGreatDoor
open Go.TM
def opK (o:Op):Ky:=(o.flow,o.pos)
def opX (o:Op):Ob:=⟨o.item,o.owner,o.wear,o.bound⟩
def doE (its:List Item) (m:OM) (o:Op):Int :=
 if o.kind=0 then putE its m (opK o) (makeX its o.item o.owner)
 else if o.kind=1 then givE its m (opK o) o.owner o.a
 else if o.kind=2 then useE its m (opK o) o.owner (o.a+1) o.b
 else if o.kind=3 then repE its m (opK o) o.owner o.b
 else if o.kind=4 then (if (oget m (opK o)).isSome then 0 else 7)
 else putE its m (opK o) (opX o)
def doM (its:List Item) (m:OM) (o:Op):OM :=
 if o.kind=0 then putM its m (opK o) (makeX its o.item o.owner)
 else if o.kind=1 then givM its m (opK o) o.owner o.a
 else if o.kind=2 then useM its m (opK o) o.owner (o.a+1) o.b
 else if o.kind=3 then repM its m (opK o) o.owner o.b
 else if o.kind=4 then odel m (opK o)
 else putM its m (opK o) (opX o)
variable [KObj]
set_option maxRecDepth 100000
theorem state_spec (f p i o w:Int) (b:Bool):PSpec Tryz.prog 28 [.agg [I f,I p,I i,I o,I w,B b]] [.agg [I i,I o,I w,B b]]:=by
 refine pspec_of tab_ok mixed (calls_snd _) (range_snd _) Tryz.func28 rfl (by kernel_rfl) rfl ?_
 exact ⟨rf,tv⟩
set_option maxHeartbeats 4000000 in
theorem do_spec (its:List Item) (m:OM) (o:Op) (hm:OkS its m) (ha:0≤o.a∧o.a≤1073741825):CSpec Tryz.prog 15 [.ptr 0 0,ofD (eOp o)] 2 (stK its m) 0 [.dv (I (doE its m o))] (stK its (doM its m o)):=by
 refine cspec_of tab_ok mixed (calls_snd _) (range_snd _) Tryz.func15 rfl rfl (by kernel_rfl) ?_
 refine And.intro ?_ ?_
 ·intro h
  have h0:o.kind=0:=by have h':(o.kind == 0)=true:=h; simpa using h'
  clear h
  have e1:doE its m o=putE its m (opK o) (makeX its o.item o.owner):=by simp [doE,h0]
  have e2:doM its m o=putM its m (opK o) (makeX its o.item o.owner):=by simp [doM,h0]
  rw [e1,e2]
  refine .inr ⟨[0,1],[.ptr 0 0,ofD (eKy (opK o)),.dv (I o.item),.dv (I o.owner)],stK its m,0,_,_,make_spec its m (opK o) o.item o.owner,by kernel_rfl,by kernel_rfl,⟨rfl,⟨rf,rf,tv⟩,rf,rf,tv⟩,⟨⟨rf,rf,rf,rf,rfl,tv⟩,⟨rfl,rfl⟩,tv⟩,?_⟩
  exact ⟨_,_,⟨rfl,rfl⟩,by kernel_rfl,⟨rf,tv⟩,⟨rf,rf,rf,rf,rfl,tv⟩,⟨rfl,rfl⟩,tv⟩
 intro h
 have h0:¬ o.kind=0:=by have h':(o.kind == 0)=false:=h; simpa using h'
 clear h
 refine And.intro ?_ ?_
 ·intro h
  have h1:o.kind=1:=by have h':(o.kind == 1)=true:=h; simpa using h'
  clear h
  have e1:doE its m o=givE its m (opK o) o.owner o.a:=by simp [doE,h1]
  have e2:doM its m o=givM its m (opK o) o.owner o.a:=by simp [doM,h1]
  rw [e1,e2]
  refine .inr ⟨[0,1],[.ptr 0 0,ofD (eKy (opK o)),.dv (I o.owner),.dv (I o.a)],stK its m,0,_,_,giv_spec its m (opK o) o.owner o.a hm,by kernel_rfl,by kernel_rfl,⟨rfl,⟨rf,rf,tv⟩,rf,rf,tv⟩,⟨⟨rf,rf,rf,rf,rfl,tv⟩,⟨rfl,rfl⟩,tv⟩,?_⟩
  exact ⟨_,_,⟨rfl,rfl⟩,by kernel_rfl,⟨rf,tv⟩,⟨rf,rf,rf,rf,rfl,tv⟩,⟨rfl,rfl⟩,tv⟩
 intro h
 have h1:¬ o.kind=1:=by have h':(o.kind == 1)=false:=h; simpa using h'
 clear h
 refine And.intro ?_ ?_
 ·intro h
  have h2:o.kind=2:=by have h':(o.kind == 2)=true:=h; simpa using h'
  clear h
  have e1:doE its m o=useE its m (opK o) o.owner (o.a+1) o.b:=by simp [doE,h2]
  have e2:doM its m o=useM its m (opK o) o.owner (o.a+1) o.b:=by simp [doM,h2]
  rw [e1,e2]
  refine ⟨fun _=>⟨by omega,by omega⟩,?_⟩
  refine .inr ⟨[0,1],[.ptr 0 0,ofD (eKy (opK o)),.dv (I o.owner),.dv (I (o.a+1)),.dv (I o.b)],stK its m,0,_,_,use_spec its m (opK o) o.owner (o.a+1) o.b hm,by kernel_rfl,by kernel_rfl,⟨rfl,⟨rf,rf,tv⟩,rf,rf,rf,tv⟩,⟨⟨rf,rf,rf,rf,rfl,tv⟩,⟨rfl,rfl⟩,tv⟩,?_⟩
  exact ⟨_,_,⟨rfl,rfl⟩,by kernel_rfl,⟨rf,tv⟩,⟨rf,rf,rf,rf,rfl,tv⟩,⟨rfl,rfl⟩,tv⟩
 intro h
 have h2:¬ o.kind=2:=by have h':(o.kind == 2)=false:=h; simpa using h'
 clear h
 refine And.intro ?_ ?_
 ·intro h
  have h3:o.kind=3:=by have h':(o.kind == 3)=true:=h; simpa using h'
  clear h
  have e1:doE its m o=repE its m (opK o) o.owner o.b:=by simp [doE,h3]
  have e2:doM its m o=repM its m (opK o) o.owner o.b:=by simp [doM,h3]
  rw [e1,e2]
  refine .inr ⟨[0,1],[.ptr 0 0,ofD (eKy (opK o)),.dv (I o.owner),.dv (I o.b)],stK its m,0,_,_,rep_spec its m (opK o) o.owner o.b hm,by kernel_rfl,by kernel_rfl,⟨rfl,⟨rf,rf,tv⟩,rf,rf,tv⟩,⟨⟨rf,rf,rf,rf,rfl,tv⟩,⟨rfl,rfl⟩,tv⟩,?_⟩
  exact ⟨_,_,⟨rfl,rfl⟩,by kernel_rfl,⟨rf,tv⟩,⟨rf,rf,rf,rf,rfl,tv⟩,⟨rfl,rfl⟩,tv⟩
 intro h
 have h3:¬ o.kind=3:=by have h':(o.kind == 3)=false:=h; simpa using h'
 clear h
 refine And.intro ?_ ?_
 ·intro h
  have h4:o.kind=4:=by have h':(o.kind == 4)=true:=h; simpa using h'
  clear h
  have e1:doE its m o=(if (oget m (opK o)).isSome then 0 else 7):=by simp [doE,h4]
  have e2:doM its m o=odel m (opK o):=by simp [doM,h4]
  rw [e1,e2]
  refine .inr ⟨[0,1],[.ptr 0 0,ofD (eKy (opK o))],stK its m,0,_,_,remove_spec its m (opK o),by kernel_rfl,by kernel_rfl,⟨rfl,⟨rf,rf,tv⟩,tv⟩,⟨⟨rf,rf,rf,rf,rfl,tv⟩,⟨rfl,rfl⟩,tv⟩,?_⟩
  exact ⟨_,_,⟨rfl,rfl⟩,by kernel_rfl,⟨rf,tv⟩,⟨rf,rf,rf,rf,rfl,tv⟩,⟨rfl,rfl⟩,tv⟩
 intro h
 have h4:¬ o.kind=4:=by have h':(o.kind == 4)=false:=h; simpa using h'
 clear h
 have e1:doE its m o=putE its m (opK o) (opX o):=by simp [doE,h0,h1,h2,h3,h4]
 have e2:doM its m o=putM its m (opK o) (opX o):=by simp [doM,h0,h1,h2,h3,h4]
 rw [e1,e2]
 refine .inl ⟨_,fun _=>(state_spec o.flow o.pos o.item o.owner o.wear o.bound).ok,?_⟩
 refine .inr ⟨[0,1],[.ptr 0 0,ofD (eKy (opK o)),ofD (eOb (opX o))],stK its m,0,_,_,put_spec its m (opK o) (opX o),by kernel_rfl,by kernel_rfl,⟨rfl,⟨rf,rf,tv⟩,⟨rf,rf,rf,rf,tv⟩,tv⟩,⟨⟨rf,rf,rf,rf,rfl,tv⟩,⟨rfl,rfl⟩,tv⟩,?_⟩
 exact ⟨by kernel_rfl,_,_,⟨rfl,rfl⟩,by kernel_rfl,⟨rf,tv⟩,⟨rf,rf,rf,rf,rfl,tv⟩,⟨rfl,rfl⟩,tv⟩
end Go.Proofs.YtccialgeakmmpaaGreatDoor
