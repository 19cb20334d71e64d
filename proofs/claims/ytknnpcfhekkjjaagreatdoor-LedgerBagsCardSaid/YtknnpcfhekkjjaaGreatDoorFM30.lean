import Derived.Test.YtknnpcfhekkjjaaGreatDoorFM22
import Derived.Test.YtknnpcfhekkjjaaGreatDoorFM29
import Derived.WalkKit
import Derived.Deep.LoopGhost
import Derived.LoopTactic
import Derived.StillTailTactics
import Derived.Shelf.SlSortCmp.QuietGrown
import Derived.Test.YtknnpcfhekkjjaaGreatDoorFM25
import Derived.Shelf.SlSortCmp.NoneTotal
set_option linter.all false
namespace Go.Proofs.YtknnpcfhekkjjaaGreatDoor
set_option maxRecDepth 100000
set_option maxHeartbeats 4000000
section
open Go.Proofs
def Ii:Go.Shelf.Ren:=⟨fun|6=>183|15=>199|14=>198|28=>220|29=>221|20=>212|21=>213|22=>214|23=>215|24=>216|25=>217|26=>218|27=>219|46=>233|47=>234|48=>235|49=>236|50=>237|57=>245|n=>n,fun|22=>53|24=>109|25=>224|3=>3|39=>236|0=>0|53=>254|55=>256|4=>4|46=>248|45=>247|50=>203|5=>5|9=>9|66=>266|70=>270|76=>277|77=>278|n=>n,fun|n=>n⟩
theorem V8:Go.Proofs.SlLaysF0.n6 Tryz.prog Ii where
 mixed:=by kernel_rfl
 f6:=⟨Tryz.f183.name,by kernel_rfl,Tryz.func183.trans (congrArg some (by kernel_rfl))⟩
 f14:=⟨Tryz.f198.name,by kernel_rfl,Tryz.func198.trans (congrArg some (by kernel_rfl))⟩
 f15:=Tryz.func199.trans (congrArg some (by kernel_rfl))
 f20:=⟨Tryz.f212.name,by kernel_rfl,Tryz.func212.trans (congrArg some (by kernel_rfl))⟩
 f21:=⟨Tryz.f213.name,by kernel_rfl,Tryz.func213.trans (congrArg some (by kernel_rfl))⟩
 f22:=⟨Tryz.f214.name,by kernel_rfl,Tryz.func214.trans (congrArg some (by kernel_rfl))⟩
 f23:=⟨Tryz.f215.name,by kernel_rfl,Tryz.func215.trans (congrArg some (by kernel_rfl))⟩
 f24:=⟨Tryz.f216.name,by kernel_rfl,Tryz.func216.trans (congrArg some (by kernel_rfl))⟩
 f25:=⟨Tryz.f217.name,by kernel_rfl,Tryz.func217.trans (congrArg some (by kernel_rfl))⟩
 f26:=⟨Tryz.f218.name,by kernel_rfl,Tryz.func218.trans (congrArg some (by kernel_rfl))⟩
 f27:=⟨Tryz.f219.name,by kernel_rfl,Tryz.func219.trans (congrArg some (by kernel_rfl))⟩
 f28:=Tryz.func220.trans (congrArg some (by kernel_rfl))
 f29:=Tryz.func221.trans (congrArg some (by kernel_rfl))
 f46:=⟨Tryz.f233.name,by kernel_rfl,Tryz.func233.trans (congrArg some (by kernel_rfl))⟩
 f47:=Tryz.func234.trans (congrArg some (by kernel_rfl))
 f48:=Tryz.func235.trans (congrArg some (by kernel_rfl))
 f49:=⟨Tryz.f236.name,by kernel_rfl,Tryz.func236.trans (congrArg some (by kernel_rfl))⟩
 f50:=⟨Tryz.f237.name,by kernel_rfl,Tryz.func237.trans (congrArg some (by kernel_rfl))⟩
 f57:=⟨Tryz.f245.name,by kernel_rfl,Tryz.func245.trans (congrArg some (by kernel_rfl))⟩
 t0:=Tryz.underlying0
 a0:=Tryz.isAgg0
 z0:=Tryz.sizeOf0
 v0:=Tryz.zeroValue0
 t3:=Tryz.underlying3
 a3:=Tryz.isAgg3
 z3:=Tryz.sizeOf3
 v3:=Tryz.zeroValue3
 t4:=Tryz.underlying4
 a4:=Tryz.isAgg4
 z4:=Tryz.sizeOf4
 v4:=Tryz.zeroValue4
 t5:=Tryz.underlying5
 a5:=Tryz.isAgg5
 z5:=Tryz.sizeOf5
 v5:=Tryz.zeroValue5
 t9:=Tryz.underlying9
 a9:=Tryz.isAgg9
 z9:=Tryz.sizeOf9
 v9:=Tryz.zeroValue9
 t22:=Tryz.underlying53
 a22:=Tryz.isAgg53
 z22:=Tryz.sizeOf53
 v22:=Tryz.zeroValue53
 t25:=Tryz.underlying224
 a25:=Tryz.isAgg224
 z25:=Tryz.sizeOf224
 v25:=Tryz.zeroValue224
 t39:=Tryz.underlying236
 a39:=Tryz.isAgg236
 z39:=Tryz.sizeOf236
 v39:=Tryz.zeroValue236
 t45:=Tryz.underlying247
 a45:=Tryz.isAgg247
 z45:=Tryz.sizeOf247
 v45:=Tryz.zeroValue247
 t46:=Tryz.underlying248
 a46:=Tryz.isAgg248
 z46:=Tryz.sizeOf248
 v46:=Tryz.zeroValue248
 t50:=Tryz.underlying203
 a50:=Tryz.isAgg203
 z50:=Tryz.sizeOf203
 v50:=Tryz.zeroValue203
 t53:=Tryz.underlying254
 a53:=Tryz.isAgg254
 z53:=Tryz.sizeOf254
 v53:=Tryz.zeroValue254
 t55:=Tryz.underlying256
 a55:=Tryz.isAgg256
 z55:=Tryz.sizeOf256
 v55:=Tryz.zeroValue256
 t66:=Tryz.underlying266
 a66:=Tryz.isAgg266
 z66:=Tryz.sizeOf266
 v66:=Tryz.zeroValue266
 t70:=Tryz.underlying270
 a70:=Tryz.isAgg270
 z70:=Tryz.sizeOf270
 v70:=Tryz.zeroValue270
 t76:=Tryz.underlying277
 a76:=Tryz.isAgg277
 z76:=Tryz.sizeOf277
 v76:=Tryz.zeroValue277
 t77:=Tryz.underlying278
 a77:=Tryz.isAgg278
 z77:=Tryz.sizeOf278
 v77:=Tryz.zeroValue278
def rQ:Go.Shelf.Ren:=⟨fun|6=>225|15=>199|14=>241|28=>220|29=>221|20=>247|21=>248|22=>249|23=>250|24=>251|25=>252|26=>253|27=>254|46=>255|47=>234|48=>235|49=>256|50=>257|57=>258|n=>n,fun|22=>40|24=>3|25=>29|3=>3|39=>236|0=>0|53=>254|55=>256|4=>4|46=>248|45=>247|50=>203|5=>5|9=>9|66=>266|70=>270|76=>277|77=>278|n=>n,fun|n=>n⟩
theorem Px:Go.Proofs.SlLaysF.n6 Tryz.prog rQ where
 mixed:=by kernel_rfl
 f6:=⟨Tryz.f225.name,by kernel_rfl,Tryz.func225.trans (congrArg some (by kernel_rfl))⟩
 f14:=⟨Tryz.f241.name,by kernel_rfl,Tryz.func241.trans (congrArg some (by kernel_rfl))⟩
 f15:=Tryz.func199.trans (congrArg some (by kernel_rfl))
 f20:=⟨Tryz.f247.name,by kernel_rfl,Tryz.func247.trans (congrArg some (by kernel_rfl))⟩
 f21:=⟨Tryz.f248.name,by kernel_rfl,Tryz.func248.trans (congrArg some (by kernel_rfl))⟩
 f22:=⟨Tryz.f249.name,by kernel_rfl,Tryz.func249.trans (congrArg some (by kernel_rfl))⟩
 f23:=⟨Tryz.f250.name,by kernel_rfl,Tryz.func250.trans (congrArg some (by kernel_rfl))⟩
 f24:=⟨Tryz.f251.name,by kernel_rfl,Tryz.func251.trans (congrArg some (by kernel_rfl))⟩
 f25:=⟨Tryz.f252.name,by kernel_rfl,Tryz.func252.trans (congrArg some (by kernel_rfl))⟩
 f26:=⟨Tryz.f253.name,by kernel_rfl,Tryz.func253.trans (congrArg some (by kernel_rfl))⟩
 f27:=⟨Tryz.f254.name,by kernel_rfl,Tryz.func254.trans (congrArg some (by kernel_rfl))⟩
 f28:=Tryz.func220.trans (congrArg some (by kernel_rfl))
 f29:=Tryz.func221.trans (congrArg some (by kernel_rfl))
 f46:=⟨Tryz.f255.name,by kernel_rfl,Tryz.func255.trans (congrArg some (by kernel_rfl))⟩
 f47:=Tryz.func234.trans (congrArg some (by kernel_rfl))
 f48:=Tryz.func235.trans (congrArg some (by kernel_rfl))
 f49:=⟨Tryz.f256.name,by kernel_rfl,Tryz.func256.trans (congrArg some (by kernel_rfl))⟩
 f50:=⟨Tryz.f257.name,by kernel_rfl,Tryz.func257.trans (congrArg some (by kernel_rfl))⟩
 f57:=⟨Tryz.f258.name,by kernel_rfl,Tryz.func258.trans (congrArg some (by kernel_rfl))⟩
 t0:=Tryz.underlying0
 a0:=Tryz.isAgg0
 z0:=Tryz.sizeOf0
 v0:=Tryz.zeroValue0
 t3:=Tryz.underlying3
 a3:=Tryz.isAgg3
 z3:=Tryz.sizeOf3
 v3:=Tryz.zeroValue3
 t4:=Tryz.underlying4
 a4:=Tryz.isAgg4
 z4:=Tryz.sizeOf4
 v4:=Tryz.zeroValue4
 t5:=Tryz.underlying5
 a5:=Tryz.isAgg5
 z5:=Tryz.sizeOf5
 v5:=Tryz.zeroValue5
 t9:=Tryz.underlying9
 a9:=Tryz.isAgg9
 z9:=Tryz.sizeOf9
 v9:=Tryz.zeroValue9
 t22:=Tryz.underlying40
 a22:=Tryz.isAgg40
 z22:=Tryz.sizeOf40
 v22:=Tryz.zeroValue40
 a24:=Tryz.isAgg3
 z24:=Tryz.sizeOf3
 t25:=Tryz.underlying29
 a25:=Tryz.isAgg29
 z25:=Tryz.sizeOf29
 v25:=Tryz.zeroValue29
 t39:=Tryz.underlying236
 a39:=Tryz.isAgg236
 z39:=Tryz.sizeOf236
 v39:=Tryz.zeroValue236
 t45:=Tryz.underlying247
 a45:=Tryz.isAgg247
 z45:=Tryz.sizeOf247
 v45:=Tryz.zeroValue247
 t46:=Tryz.underlying248
 a46:=Tryz.isAgg248
 z46:=Tryz.sizeOf248
 v46:=Tryz.zeroValue248
 t50:=Tryz.underlying203
 a50:=Tryz.isAgg203
 z50:=Tryz.sizeOf203
 v50:=Tryz.zeroValue203
 t53:=Tryz.underlying254
 a53:=Tryz.isAgg254
 z53:=Tryz.sizeOf254
 v53:=Tryz.zeroValue254
 t55:=Tryz.underlying256
 a55:=Tryz.isAgg256
 z55:=Tryz.sizeOf256
 v55:=Tryz.zeroValue256
 t66:=Tryz.underlying266
 a66:=Tryz.isAgg266
 z66:=Tryz.sizeOf266
 v66:=Tryz.zeroValue266
 t70:=Tryz.underlying270
 a70:=Tryz.isAgg270
 z70:=Tryz.sizeOf270
 v70:=Tryz.zeroValue270
 t76:=Tryz.underlying277
 a76:=Tryz.isAgg277
 z76:=Tryz.sizeOf277
 v76:=Tryz.zeroValue277
 t77:=Tryz.underlying278
 a77:=Tryz.isAgg278
 z77:=Tryz.sizeOf278
 v77:=Tryz.zeroValue278
end
section
open Go.Proofs Go.Sort Go.RowKit
theorem aaO(x:Int)(w:World):Calls Tryz.prog 200 #[.int .i64 x] w fun e w'=>e=.returned (.bool false)/\w'=w:=by
 go_enter Tryz.func200,Tryz.ntmps200
 go_wp2
 go_ret
 exact⟨by simp,rfl⟩
theorem aaP(x:Int)(w:World):Calls Tryz.prog 242 #[.int .u64 x] w fun e w'=>e=.returned (.bool false)/\w'=w:=by
 go_enter Tryz.func242,Tryz.ntmps242
 go_wp2
 go_ret
 exact⟨by simp,rfl⟩
def qz(x y:Int):Int:=if x<y then -1 else if y<x then 1 else 0
theorem rR(x y:Int)(w:World):Calls Tryz.prog 186 #[.int .i64 x,.int .i64 y] w fun e w'=>e=.returned (.int .i64 (qz x y))/\w'=w:=by
 go_enter Tryz.func186,Tryz.ntmps186
 go_wp2_with (go_at_call 200;refine(aaO _ _).mono ?_;rintro e w' ⟨rfl,hw⟩;rw[hw])
 all_goals(go_ret;refine⟨?_,rfl⟩;unfold qz;(repeat' split)<;>first|rfl|(exfalso;omega))
theorem Ij(x y:Int)(w:World):Calls Tryz.prog 227 #[.int .u64 x,.int .u64 y] w fun e w'=>e=.returned (.int .i64 (qz x y))/\w'=w:=by
 go_enter Tryz.func227,Tryz.ntmps227
 go_wp2_with (go_at_call 242;refine(aaP _ _).mono ?_;rintro e w' ⟨rfl,hw⟩;rw[hw])
 all_goals(go_ret;refine⟨?_,rfl⟩;unfold qz;(repeat' split)<;>first|rfl|(exfalso;omega))
theorem BC(a b:Int)(cF:Nat)(W:World)(h0:W.cell? ⟨cF,0,none⟩=some (.int .i64 a))(h1:W.cell? ⟨cF,1,none⟩=some (.int .i64 b)):Calls Tryz.prog 185 #[.slice (some ⟨cF,0,none⟩) 2 2] W fun e w'=>e=.returned (.int .i64 (if a=0 then b else a))/\w'=W:=by
 obtain⟨r,hr⟩:∃r,r=if a=0 then b else a:=⟨_,rfl⟩
 rw[<-hr]
 go_enter Tryz.func185,Tryz.ntmps185
 go_wp2
 go_loop [5,8] (fun _ i=>∃k:Nat,k<=2/\i=.int .i64 k/\(0<k->a=0)/\(1<k->b=0)) (fun _ i=>2-(intOf i).toNat)
 case atStart=>exact⟨0,by omega,rfl,fun h=>by omega,fun h=>by omega⟩
 case round=>
  obtain⟨k,hk,rfl,k1,k2⟩:=hrel
  by_cases au:k<2
  ·obtain⟨v,hv,dK⟩:∃v:Int,W.cell? ⟨cF,k,none⟩=some (.int .i64 v)/\((k=0->v=a)/\(k=1->v=b)):=by
    rcases(by omega:k=0\/k=1)with rfl|rfl
    ·exact⟨a,h0,fun _=>rfl,fun h=>by omega⟩
    ·exact⟨b,h1,fun h=>by omega,fun _=>rfl⟩
   have hlz:(k:Int)<2:=by omega
   have UE:v≠0->v=r:=fun h=>by
    rcases(by omega:k=0\/k=1)with rfl|rfl
    ·rw[dK.1 rfl]at h⊢;rw[hr,if_neg h]
    ·rw[dK.2 rfl,hr,if_pos (k1 (by omega))]
   have GH:v=0->(0<k+1->a=0)/\(1<k+1->b=0):=fun h=>by
    rcases(by omega:k=0\/k=1)with rfl|rfl
    ·exact⟨fun _=>by rw[<-dK.1 rfl];exact h,fun h=>by omega⟩
    ·exact⟨fun _=>k1 (by omega),fun _=>by rw[<-dK.2 rfl];exact h⟩
   clear h0 h1 hr dK k1 k2
   go_wp2
   ·go_ret
    refine⟨?_,rfl⟩
    rw[UE (by simp_all)]
    rfl
   ·refine⟨⟨k+1,by omega,by go_num,(GH (by simp_all)).1,(GH (by simp_all)).2⟩,?_⟩
    simp[intOf];omega
  ·have hlz:¬(k:Int)<2:=by omega
   have Yg:r=0:=by rw[hr,if_pos (k1 (by omega)),k2 (by omega)]
   clear h0 h1 hr k1 k2
   subst Yg
   go_wp2
   go_ret
   exact⟨rfl,rfl⟩
theorem Ud(W:World)(A B:Array Value)(t:TypeId)(j:Nat):((W.alloc (.cells A t)).alloc (.cells B t)).drew.cell? ⟨W.heap.size,j,none⟩=A[j]?:=by
 have:((W.alloc (.cells A t)).alloc (.cells B t)).drew.heap[W.heap.size]?=some (.cells A t):=by
  show((W.heap.push _).push _)[W.heap.size]?=_
  rw[Array.getElem?_push,if_neg (by simp),Array.getElem?_push,if_pos rfl]
 unfold World.cell?
 rw[this];rfl
theorem Ue(W:World)(A B:Array Value)(t:TypeId)(j:Nat):((W.alloc (.cells A t)).alloc (.cells B t)).drew.cell? ⟨W.heap.size+1,j,none⟩=B[j]?:=by
 have:((W.alloc (.cells A t)).alloc (.cells B t)).drew.heap[W.heap.size+1]?=some (.cells B t):=by
  show((W.heap.push _).push _)[W.heap.size+1]?=_
  rw[Array.getElem?_push,if_pos (by simp)]
 unfold World.cell?
 rw[this];rfl
theorem Uf(W:World)(A:Array Value)(t:TypeId)(j:Nat):(W.alloc (.cells A t)).cell? ⟨W.heap.size,j,none⟩=A[j]?:=by
 have:(W.alloc (.cells A t)).heap[W.heap.size]?=some (.cells A t):=by
  show(W.heap.push _)[W.heap.size]?=_
  rw[Array.getElem?_push,if_pos rfl]
 unfold World.cell?
 rw[this];rfl
def Py(x:Lt):List Value:=[.int .i64 x.f,.int .i64 x.a,.int .i64 x.n]
def Ik(x y:Lt):Int:=if qz x.f y.f=0 then qz x.a y.a else qz x.f y.f
theorem Zg(x y:Lt)(W:World):Calls Tryz.prog 184 #[.agg (Py x).toArray,.agg (Py y).toArray] W fun e w'=>e=.returned (.int .i64 (Ik x y))/\∃q FI,w'=grow (W.drewN q) FI:=by
 unfold Py
 obtain⟨r,hr⟩:∃r,r=Ik x y:=⟨_,rfl⟩
 rw[<-hr]
 have mixed:Tryz.prog.follows .mixedOrders=true:=mixed
 have tY:=fun W'=>rR x.f y.f W'
 have A3:=fun W'=>rR x.a y.a W'
 go_enter Tryz.func184,Tryz.ntmps184
 go_wp2
 have f0:((W.alloc (.cells #[.int .i64 x.f,.int .i64 x.a,.int .i64 x.n] 109)).alloc (.cells #[.int .i64 y.f,.int .i64 y.a,.int .i64 y.n] 109)).drew.cell? ⟨W.heap.size,0,none⟩=some (.int .i64 x.f):=Ud ..
 have f1:((W.alloc (.cells #[.int .i64 x.f,.int .i64 x.a,.int .i64 x.n] 109)).alloc (.cells #[.int .i64 y.f,.int .i64 y.a,.int .i64 y.n] 109)).drew.cell? ⟨W.heap.size,1,none⟩=some (.int .i64 x.a):=Ud ..
 have g0:((W.alloc (.cells #[.int .i64 x.f,.int .i64 x.a,.int .i64 x.n] 109)).alloc (.cells #[.int .i64 y.f,.int .i64 y.a,.int .i64 y.n] 109)).drew.cell? ⟨W.heap.size+1,0,none⟩=some (.int .i64 y.f):=Ue ..
 have g1:((W.alloc (.cells #[.int .i64 x.f,.int .i64 x.a,.int .i64 x.n] 109)).alloc (.cells #[.int .i64 y.f,.int .i64 y.a,.int .i64 y.n] 109)).drew.cell? ⟨W.heap.size+1,1,none⟩=some (.int .i64 y.a):=Ue ..
 have hg:∃q FI,((W.alloc (.cells #[.int .i64 x.f,.int .i64 x.a,.int .i64 x.n] 109)).alloc (.cells #[.int .i64 y.f,.int .i64 y.a,.int .i64 y.n] 109)).drew=grow (W.drewN q) FI:=⟨1,_,by rw[alloc_eq_grow,alloc_eq_grow,grow_grow];rfl⟩
 generalize (W.alloc (.cells #[.int .i64 x.f,.int .i64 x.a,.int .i64 x.n] 109)).alloc (.cells #[.int .i64 y.f,.int .i64 y.a,.int .i64 y.n] 109)=W2 at*
 refine wp_region_still_tail 10 mixed (by kernel_rfl) ?_
 simp only[List.take_succ_cons,List.take_zero,List.drop_succ_cons,List.drop_zero]
 change wpStill _ _ (World.drew W2) _ _ _
 generalize hW3:World.drew W2=W3 at*
 repeat still_step
 still_call (tY _)
 repeat still_step
 still_call (A3 _)
 refine wpStill_nil ?_
 clear f0 f1 g0 g1 tY A3
 unfold Ik at hr
 generalize qz x.f y.f=r1 at*
 generalize qz x.a y.a=r2 at*
 have HG:Hid (∃q FI,W3=grow (W.drewN q) FI):=hg
 have HR:Hid (r=if r1=0 then r2 else r1):=hr
 clear hg hr mixed
 refine wpList_step (fun K hK=>?_)
 go_simp
 refine hK _ _ ?_
 clear hK K
 have hc:∀j,(W3.alloc (Obj.cells #[Value.int .i64 r1,Value.int .i64 r2] 3)).cell? ⟨W3.heap.size,j,none⟩=(#[Value.int .i64 r1,Value.int .i64 r2]:Array Value)[j]?:=fun j=>Uf W3 _ _ j
 have hgw:Hid (∃q FI,W3.alloc (Obj.cells #[Value.int .i64 r1,Value.int .i64 r2] 3)=grow (W.drewN q) FI):=by
  obtain⟨q,os,h⟩:=HG.out
  exact⟨q,_,by rw[h,alloc_eq_grow,grow_grow]⟩
 generalize W3.alloc (Obj.cells #[Value.int .i64 r1,Value.int .i64 r2] 3)=W4 at*
 generalize W3.heap.size=sz at*
 have c0:=hc 0
 have c1:=hc 1
 clear hc HG hW3
 refine wpList_step (fun K hK=>?_)
 go_simp
 refine(BC r1 r2 sz W4 c0 c1).mono ?_
 rintro e w' ⟨rfl,rfl⟩
 refine hK _ _ ?_
 clear hK K
 refine wpList_step (fun K hK=>?_)
 go_simp
 refine hK _ _ ?_
 clear hK K c0 c1
 rw[show(if r1=0 then r2 else r1)=r from HR.out.symm]
 clear HR
 go_wp2
 go_ret
 exact⟨rfl,hgw.out⟩
end
section
open Go.TM
def jr(n m:Int):Int:=if n.tmod m<0 then n.tmod m+m else n.tmod m
theorem BD(n m:Int)(hm:1<=m):0<=jr n m/\jr n m<m:=by
 unfold jr
 have h1:=Int.tmod_lt_of_pos n (show 0<m by omega)
 have h2:=Int.lt_tmod_of_pos n (show 0<m by omega)
 split<;>omega
def pick(l:List Int)(i m:Int):Int:=if i<0 then 0 else match l[i.toNat]? with
 |some x=>jr x m
 |none=>0
theorem eu(l:List Int)(i m:Int)(hm:1<=m):0<=pick l i m/\pick l i m<m:=by
 unfold pick
 split
 ·omega
 ·split
  ·exact BD _ m hm
  ·omega
variable [bG]
theorem wa(n m:Int)(hm:1<=m)(J6:m<=4611686018427387904):aI Tryz.prog 6 [I n,I m] [I (jr n m)]:=by
 refine pO Tryz.func6 rfl (by kernel_rfl) rfl ?_
 have h1:=Int.tmod_lt_of_pos n (show 0<m by omega)
 have h2:=Int.lt_tmod_of_pos n (show 0<m by omega)
 refine⟨fun _=>by omega,fun h=>?_,fun h=>?_⟩
 ·have h':n.tmod m<0:=abY h
  exact⟨fun _=>⟨by omega,by omega⟩,aF (by rw[jr,if_pos h']),tv⟩
 ·have h':¬n.tmod m<0:=abZ h
  exact⟨aF (by rw[jr,if_neg h']),tv⟩
theorem bO(l:List Int)(i m:Int)(hm:1<=m)(J6:m<=4611686018427387904):aI Tryz.prog 46 [Ints l,I i,I m] [I (pick l i m)]:=by
 refine pO Tryz.func46 rfl (by kernel_rfl) rfl ?_
 repeat first|apply g1|apply g2|apply g3|apply g4|apply g5
 refine⟨fun h=>?_,fun h=>?_⟩
 ·refine⟨aF ?_,tv⟩
  unfold pick
  split
  ·rfl
  ·rename_i hi
   have Zh:¬m<1:=by omega
   have:(l.length:Int)<=i:=by simpa[hi,Zh]using h
   rw[List.getElem?_eq_none (by omega)]
 ·have hi:¬i<0:=fun hi=>by simp[hi]at h
  have uY:¬(l.length:Int)<=i:=fun uY=>by simp[hi,uY]at h
  have au:i.toNat<l.length:=by omega
  refine⟨I l[i.toNat],fun _=>⟨by omega,by simp[au]⟩,?_⟩
  refine .inl ⟨_,fun _=>(wa _ m hm (by omega)).ok,aF ?_,tv⟩
  unfold pick
  rw[if_neg hi,aaj au]
theorem BE(l:List Lt)(hl:l.length<=1000000):aI Tryz.prog 42 [aU l,aU l] [B true]:=by
 refine pO Tryz.func42 rfl (by kernel_rfl) rfl ?_
 have lp:(l.map aC).length=l.length:=abH ..
 refine abG (fun h=>by simp at h) fun _=>?_
 refine⟨Nat,fun i=>⟨0,[(0,.dv (aU l)),(1,.dv (aU l)),(5,.dv (I i))],[]⟩,fun i=>i<=l.length,fun i=>l.length-i,0,fun _=>rfl,jn rfl rfl rfl rfl,abW _,?_⟩
 rintro i hi
 refine abG ?_ ?_
 ·intro h
  have au:i<l.length:=by have:=abY h;omega
  obtain⟨x,hx⟩:∃x,l[i]?=some x:=⟨_,aaj au⟩
  have ix:(l.map aC)[(i:Int).toNat]?=some (aC x):=by rw[abJ];simp[hx]
  refine⟨aC x,fun _=>⟨by omega,ix⟩,aC x,fun _=>⟨by omega,ix⟩,?_⟩
  refine⟨by kernel_rfl,abG (fun h=>by simp at h) fun _=>?_⟩
  exact⟨fun _=>⟨by omega,by omega⟩,i+1,jn rfl rfl rfl rfl,by omega,mlt au⟩
 ·intro h
  exact⟨rf,tv⟩
end
section
open Go.TM
variable [bG]
end
section
open Go.TM Go.Proofs Go.Sort Go.Shelf
theorem tp{w:World}{cF:Nat}{c:Array Value}{t:TypeId}(h:w.heap[cF]?=some (.cells c t (0,0)))(o:Nat):w.frozen? ⟨cF,o,none⟩=false:=by
 unfold World.frozen?
 rw[h];simp
theorem Kg{α:Type}(d:Array α):d.extract 0 d.size=d:=by simp
section
variable [cn]
theorem Il{P:Program}{f:Nat}(qq:fQ P f){args:List AV}{m:Nat}{K:ae}(hK:∀i,m<=i->aa K i=.none)
 (aX:∀(w:World) (G:Gh) (vs:List Value),nj G.M->Fit G w (aa K)->cj G args vs->Calls P f vs.toArray w fun e w'=>e=.returned (.tuple #[])/\w'=w):ar P f args m K 0 [] K:=by
 refine⟨qq,fun w G vs nF cP hr=>Calls.mono (aX w G vs nF cP hr) ?_⟩
 rintro e w' ⟨rfl,rfl⟩
 exact⟨_,[],K,G,rfl,⟨rfl,rfl⟩,⟨cP,fun i hi=>hK i (by omega),.fL [] [] rfl (by simp),.refl _,fun _ _=>rfl,fun _ _ _ _ h=>h,fun _ _ _=>⟨rfl,rfl⟩,fun i b o=>.inr ⟨i,o⟩,rfl,rfl,rfl,acb _⟩⟩
theorem nT{P:Program}{f:Nat}{args:List AV}{m ex:Nat}{K:ae}{Q Q':List AV->ae->Prop}(h:bV P f args m K ex Q)(hQ:∀r k,Q r k->Q' r k):bV P f args m K ex Q':=
 ⟨h.1,fun w G vs a b c=>Calls.mono (h.2 w G vs a b c) fun _ _ ⟨v,r,k,G',h1,h2,h3⟩=>⟨v,r,k,G',h1,hQ r k h2,h3⟩⟩
theorem SF{G:Gh}{w:World}{k:Nat}{K3:ae}{x:AV}{vs:List Value}(cP:Fit G w (aa ((0,.tree 0 0 (.aB k []))::K3)))(hr:cj G [.own 0 0 0 [],x] vs):∃p cap fv,vs=[.slice p 0 cap,fv]:=by
 match vs,hr.1 with
 |[u,fv],_=>
  have hu:=hr.2 0 _ u rfl rfl
  cases hu with|own _ _ _ _ _ hu OF=>
  obtain⟨u0,Kf,_,aZ⟩:=cP.node (p:=[]) (show aa ((0,aq.tree 0 0 (.aB k []))::K3) 0=.tree 0 0 (.aB k [])from rfl) rfl rfl
  rw[hu]at Kf;injection Kf with Kf;subst Kf
  rcases eP.1 aZ with⟨_,rfl⟩|⟨cF,off,cap,c,t,rfl,_⟩
  ·exact⟨none,0,fv,rfl⟩
  ·exact⟨_,cap,fv,rfl⟩
theorem V9{G:Gh}{g:Nat}{v:Value}(h:aG G (.dv (.fn g [])) v):v=.func (.func g) #[] #[]:=by
 cases h with
 |dv h=>
  cases h with
  |fn _ _ vs hl _=>
   have:vs=[]:=List.length_eq_zero_iff.1 (by simpa using hl.symm)
   subst this;rfl
theorem Db{P:Program}{ρ:Ren}(L:SlLaysF0.n6 P ρ)(qq:fQ P (ρ.f 6)){α:Type}[Inhabited α]{vals:α->List Int}{e:α->DV}{k:Nat}(Js:0<k)(he:∀x,(e x).cells=(vals x).map fun n=>DV.int .i64 n)(hk:∀x,(vals x).length=k)
 (aE:∀w,(isAgg (ρ.t 24)).run P w=.ok true w) (zE:∀w,(Go.sizeOf (ρ.t 24)).run P w=.ok k w) (cf:α->α->Int) (hO:SWO (ltOf cf)) (g:Nat) (eg:∀args w,(callFunc g args).run P w=.ok (.enter g args) w)
 (aaQ:∀(x y:α) (W:World),Calls P g #[.agg ((vals x).map (Value.int .i64)).toArray,.agg ((vals y).map (Value.int .i64)).toArray] W fun e w'=>e=.returned (.int .i64 (cf x y))/\∃q FI,w'=grow (W.drewN q) FI)
 (l:List α) (aV:l.length<4611686018427387904):
 bV P (ρ.f 6) [.own 0 0 0 [],.dv (.fn g [])] 1 [(0,.tree 0 0 (.aB k (l.map e)))] 0 fun rs K'=>rs=[]/\∃l':List α,(l'.Perm l/\l'.Pairwise fun x y=>ltOf cf y x=false)/\K'=[(0,.tree 0 0 (.aB k (l'.map e)))]:=by
 by_cases b7:l=[]
 ·subst b7
  refine nT (Il qq (fun i hi=>(by match i,hi with|i+1,_=>rfl)) fun w G vs nF cP hr=>?_) fun r k' fN=>⟨fN.1,[],⟨.refl _,.nil⟩,fN.2⟩
  obtain⟨p,cap,fv,rfl⟩:=SF (K3:=[]) cP hr
  exact AnyF.slices_SortFunc_none L p cap fv w
 refine nT (v7 qq he hk b7 (by omega) (K3:=[]) (fun _ _=>rfl) (fun l':List α=>l'.Perm l/\l'.Pairwise fun x y=>ltOf cf y x=false) (fun l' h=>h.1.length_eq) ?_) fun r k' fN=>fN
 rintro w G cF off cap xs cP nF hr _ ⟨c,t,hblk,cK⟩
 obtain⟨fv,rfl⟩:∃fv,xs=[fv]:=by
  match xs,hr.1 with
  |[a],_=>exact⟨a,rfl⟩
 have hfv:=V9 (hr.2 0 _ fv rfl rfl)
 subst hfv
 have DP:cF<w.heap.size:=(abV.1 hblk).1
 have dw:∀(d:Array α) (tt:Nat),tt<d.size*k->∃x,d.toList[tt/k]?=some x/\∃n,(vals x)[tt%k]?=some n/\(flatK (fun x=>(vals x).map (Value.int .i64)) k d)[tt]! = .int .i64 n:=fun d tt ht=>by
  have h1:tt/k<d.size:=(Nat.div_lt_iff_lt_mul Js).2 ht
  have h2:tt%k<(vals d[tt/k]).length:=by rw[hk];exact Nat.mod_lt _ Js
  refine⟨d[tt/k],by simp[h1],(vals d[tt/k])[tt%k],aaj h2,?_⟩
  rw[get_flatK _ _ _ _ ht,getElem!_pos d _ h1,getElem!_pos _ _ (by simpa using h2)]
  simp
 have hH:HoldsK (fun x=>(vals x).map (Value.int .i64)) k w cF off l.toArray:=fun j hj=>by
  rw[size_flatK]at hj
  obtain⟨x,hx,n,hn,hf⟩:=dw _ j hj
  have h3:=cK (j/k) x (j%k) n (by simpa using hx) hn
  rw[show off+j/k*k+j%k=off+j by rw[Nat.add_assoc,Nat.div_add_mod' j k]]at h3
  refine⟨?_,tp hblk _⟩
  rw[hf]
  unfold World.cell?
  rw[hblk]
  exact h3
 have SH:=AnyQ.slices_SortFunc L k aE zE (fun x=>(vals x).map (Value.int .i64)) (fun x=>by rw[abH,hk]) (fun x v hv=>by obtain⟨n,_,rfl⟩:=ab9.1 hv;rfl) cf hO g #[] cF off cap l.toArray w eg (fun m os dk hs x y=>by simpa using aaQ x y _) hH DP (by simpa using aV)
 refine Calls.mono SH ?_
 rintro en w' ⟨rfl,d',n,os,hp,hs,rfl⟩
 have zM:d'.size=l.length:=by simpa using hp.1
 have y8:d'.toList.Perm l:=by
  have:=hp.2.2
  rw[show l.toArray.size=d'.size by simp[zM],Kg,show d'.size=l.toArray.size by simp[zM],Kg]at this
  simpa using this
 refine⟨rfl,d'.toList,⟨y8,?_⟩,?_⟩
 ·rw[List.pairwise_iff_getElem]
  intro i j hi hj DQ
  have:=hs i j (abW _) DQ (by simpa[zM]using hj)
  rw[getElem!_pos d' j (by simpa using hj),getElem!_pos d' i (by simpa using hi)]at this
  simpa using this
 ·refine v8 (F:=flatK (fun x=>(vals x).map (Value.int .i64)) k d') DP (fun i x j n hx hn=>?_) fun c' t' fr' oh=>?_
  ·have hj:j<k:=by have:=(abI.1 hn).1;rw[hk]at this;exact this
   have hi:i<d'.size:=by have:=(abI.1 hx).1;simpa using this
   have au:i*k+j<d'.size*k:=by
    have:(i+1)*k<=d'.size*k:=acd _ hi
    rw[Nat.add_mul,Nat.one_mul]at this;omega
   refine⟨by rw[size_flatK];exact au,?_⟩
   obtain⟨x2,Ug,n2,En,hf⟩:=dw d' (i*k+j) au
   have q1:(i*k+j)/k=i:=by rw[Nat.mul_comm,Nat.mul_add_div Js,Nat.div_eq_of_lt hj];rfl
   have q2:(i*k+j)%k=j:=by rw[Nat.mul_comm,Nat.mul_add_mod,Nat.mod_eq_of_lt hj]
   rw[q1,hx]at Ug;injection Ug with Ug;subst Ug
   rw[q2,hn]at En;injection En with En;subst En
   exact hf
  ·rw[size_flatK]
   rw[hblk]at oh;injection oh with oh;injection oh with tY _ _;subst tY
   have Zf:0<l.length:=List.length_pos_iff.2 b7
   have au:d'.size*k-1<l.toArray.size*k:=by
    have:=Nat.mul_pos Zf Js
    simp[zM];omega
   obtain⟨x,hx,n2,En,_⟩:=dw l.toArray _ au
   have h3:=cK _ x _ n2 (by simpa using hx) En
   have:=(abV.1 h3).1
   rw[Nat.add_assoc,Nat.div_add_mod']at this
   omega
end
instance:Inhabited Lt:=⟨⟨0,0,0⟩⟩
theorem xe(x y:Lt):ltOf Ik x y=decide (x.f<y.f\/x.f=y.f/\x.a<y.a):=by
 unfold ltOf Ik qz
 by_cases h1:x.f<y.f
 ·simp[h1]
 ·by_cases h2:y.f<x.f
  ·simp[h1,h2];omega
  ·have:x.f=y.f:=by omega
   simp[this]
   split<;>rename_i h3
   ·simp;omega
   ·split<;>simp<;>omega
theorem Wa:SWO (ltOf Ik)where
 irrefl x:=by rw[xe];simp
 trans x y z h1 h2:=by rw[xe]at *; simp at *; omega
 ntrans x y z h1 h2:=by rw[xe]at *; simp at *; omega
variable [bG]
theorem FJ(l:List Lt)(hl:l.length<=1000000):bV Tryz.prog 183 [.own 0 0 0 [],.dv (.fn 184 [])] 1 [(0,.tree 0 0 (.aB 3 (l.map aC)))] 0 fun rs K'=>rs=[]/\∃l':List Lt,(l'.Perm l/\l'.Pairwise leq)/\K'=[(0,.tree 0 0 (.aB 3 (l'.map aC)))]:=
 nT (Db (vals:=fun x:Lt=>[x.f,x.a,x.n]) (e:=aC) V8 ⟨_,Tryz.func183,by kernel_rfl,rfl⟩ (by omega) (fun _=>rfl) (fun _=>rfl) Tryz.isAgg109 Tryz.sizeOf109 Ik Wa 184 (enters_of Tryz.func184 (by kernel_rfl) rfl) Zg l (by omega)) fun r k ⟨h1,l',⟨h2,h3⟩,h4⟩=>⟨h1,l',⟨h2,h3.imp fun {x y} h=>by
  rw[xe]at h
  unfold leq
  simp at h;omega⟩,h4⟩
end
end Go.Proofs.YtknnpcfhekkjjaaGreatDoor
