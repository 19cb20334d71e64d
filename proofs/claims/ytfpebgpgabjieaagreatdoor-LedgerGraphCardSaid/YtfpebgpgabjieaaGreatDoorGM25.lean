import Derived.Test.YtfpebgpgabjieaaGreatDoorGM18
import Derived.Test.YtfpebgpgabjieaaGreatDoorGM24
import Derived.WalkKit
import Derived.Deep.LoopGhost
import Derived.LoopTactic
import Derived.StillTailTactics
import Derived.Shelf.SlSortCmp.QuietGrown
import Derived.Test.YtfpebgpgabjieaaGreatDoorGM21
import Derived.Shelf.SlSortCmp.NoneTotal
set_option linter.all false
open Go.TM.oA Go.TM.oB Go.TM.oC Go.TM.oD Go.TM.oE
namespace Go.Proofs.YtfpebgpgabjieaaGreatDoor
set_option maxRecDepth 100000
set_option maxHeartbeats 4000000
section
open Go.Proofs
def I9:Go.Shelf.Ren:=⟨fun|6=>231|15=>95|14=>242|28=>139|29=>140|20=>254|21=>255|22=>256|23=>257|24=>258|25=>259|26=>260|27=>261|46=>273|47=>204|48=>205|49=>274|50=>275|57=>283|n=>n,fun|22=>46|24=>71|25=>278|3=>3|39=>181|0=>0|53=>217|55=>219|4=>4|46=>211|45=>210|50=>158|5=>5|9=>9|66=>259|70=>263|76=>274|77=>275|n=>n,fun|n=>n⟩
theorem X8:Go.Proofs.SlLaysF0.n6 Tryz.prog I9 where
 mixed:=by kernel_rfl
 f6:=⟨Tryz.f231.name,by kernel_rfl,Tryz.func231.trans (congrArg some (by kernel_rfl))⟩
 f14:=⟨Tryz.f242.name,by kernel_rfl,Tryz.func242.trans (congrArg some (by kernel_rfl))⟩
 f15:=Tryz.func95.trans (congrArg some (by kernel_rfl))
 f20:=⟨Tryz.f254.name,by kernel_rfl,Tryz.func254.trans (congrArg some (by kernel_rfl))⟩
 f21:=⟨Tryz.f255.name,by kernel_rfl,Tryz.func255.trans (congrArg some (by kernel_rfl))⟩
 f22:=⟨Tryz.f256.name,by kernel_rfl,Tryz.func256.trans (congrArg some (by kernel_rfl))⟩
 f23:=⟨Tryz.f257.name,by kernel_rfl,Tryz.func257.trans (congrArg some (by kernel_rfl))⟩
 f24:=⟨Tryz.f258.name,by kernel_rfl,Tryz.func258.trans (congrArg some (by kernel_rfl))⟩
 f25:=⟨Tryz.f259.name,by kernel_rfl,Tryz.func259.trans (congrArg some (by kernel_rfl))⟩
 f26:=⟨Tryz.f260.name,by kernel_rfl,Tryz.func260.trans (congrArg some (by kernel_rfl))⟩
 f27:=⟨Tryz.f261.name,by kernel_rfl,Tryz.func261.trans (congrArg some (by kernel_rfl))⟩
 f28:=Tryz.func139.trans (congrArg some (by kernel_rfl))
 f29:=Tryz.func140.trans (congrArg some (by kernel_rfl))
 f46:=⟨Tryz.f273.name,by kernel_rfl,Tryz.func273.trans (congrArg some (by kernel_rfl))⟩
 f47:=Tryz.func204.trans (congrArg some (by kernel_rfl))
 f48:=Tryz.func205.trans (congrArg some (by kernel_rfl))
 f49:=⟨Tryz.f274.name,by kernel_rfl,Tryz.func274.trans (congrArg some (by kernel_rfl))⟩
 f50:=⟨Tryz.f275.name,by kernel_rfl,Tryz.func275.trans (congrArg some (by kernel_rfl))⟩
 f57:=⟨Tryz.f283.name,by kernel_rfl,Tryz.func283.trans (congrArg some (by kernel_rfl))⟩
 t0:=Tryz.underlying0
 a0:=Tryz.isAgg0
 z0:=Tryz.sizeOf0
 v0:=Tryz.zeroValue0
 t3:=Tryz.underlying3
 a3:=Tryz.isAgg3
 z3:=Tryz.sizeOf3
 v3:=Tryz.zeroValue3
 t4:=Tryz.underlying4
 a4:=Tryz.isAgg4
 z4:=Tryz.sizeOf4
 v4:=Tryz.zeroValue4
 t5:=Tryz.underlying5
 a5:=Tryz.isAgg5
 z5:=Tryz.sizeOf5
 v5:=Tryz.zeroValue5
 t9:=Tryz.underlying9
 a9:=Tryz.isAgg9
 z9:=Tryz.sizeOf9
 v9:=Tryz.zeroValue9
 t22:=Tryz.underlying46
 a22:=Tryz.isAgg46
 z22:=Tryz.sizeOf46
 v22:=Tryz.zeroValue46
 t25:=Tryz.underlying278
 a25:=Tryz.isAgg278
 z25:=Tryz.sizeOf278
 v25:=Tryz.zeroValue278
 t39:=Tryz.underlying181
 a39:=Tryz.isAgg181
 z39:=Tryz.sizeOf181
 v39:=Tryz.zeroValue181
 t45:=Tryz.underlying210
 a45:=Tryz.isAgg210
 z45:=Tryz.sizeOf210
 v45:=Tryz.zeroValue210
 t46:=Tryz.underlying211
 a46:=Tryz.isAgg211
 z46:=Tryz.sizeOf211
 v46:=Tryz.zeroValue211
 t50:=Tryz.underlying158
 a50:=Tryz.isAgg158
 z50:=Tryz.sizeOf158
 v50:=Tryz.zeroValue158
 t53:=Tryz.underlying217
 a53:=Tryz.isAgg217
 z53:=Tryz.sizeOf217
 v53:=Tryz.zeroValue217
 t55:=Tryz.underlying219
 a55:=Tryz.isAgg219
 z55:=Tryz.sizeOf219
 v55:=Tryz.zeroValue219
 t66:=Tryz.underlying259
 a66:=Tryz.isAgg259
 z66:=Tryz.sizeOf259
 v66:=Tryz.zeroValue259
 t70:=Tryz.underlying263
 a70:=Tryz.isAgg263
 z70:=Tryz.sizeOf263
 v70:=Tryz.zeroValue263
 t76:=Tryz.underlying274
 a76:=Tryz.isAgg274
 z76:=Tryz.sizeOf274
 v76:=Tryz.zeroValue274
 t77:=Tryz.underlying275
 a77:=Tryz.isAgg275
 z77:=Tryz.sizeOf275
 v77:=Tryz.zeroValue275
def r7:Go.Shelf.Ren:=⟨fun|6=>265|15=>95|14=>279|28=>139|29=>140|20=>285|21=>286|22=>287|23=>288|24=>289|25=>290|26=>291|27=>292|46=>294|47=>204|48=>205|49=>295|50=>296|57=>297|n=>n,fun|22=>22|24=>3|25=>45|3=>3|39=>181|0=>0|53=>217|55=>219|4=>4|46=>211|45=>210|50=>158|5=>5|9=>9|66=>259|70=>263|76=>274|77=>275|n=>n,fun|n=>n⟩
theorem Qt:Go.Proofs.SlLaysF.n6 Tryz.prog r7 where
 mixed:=by kernel_rfl
 f6:=⟨Tryz.f265.name,by kernel_rfl,Tryz.func265.trans (congrArg some (by kernel_rfl))⟩
 f14:=⟨Tryz.f279.name,by kernel_rfl,Tryz.func279.trans (congrArg some (by kernel_rfl))⟩
 f15:=Tryz.func95.trans (congrArg some (by kernel_rfl))
 f20:=⟨Tryz.f285.name,by kernel_rfl,Tryz.func285.trans (congrArg some (by kernel_rfl))⟩
 f21:=⟨Tryz.f286.name,by kernel_rfl,Tryz.func286.trans (congrArg some (by kernel_rfl))⟩
 f22:=⟨Tryz.f287.name,by kernel_rfl,Tryz.func287.trans (congrArg some (by kernel_rfl))⟩
 f23:=⟨Tryz.f288.name,by kernel_rfl,Tryz.func288.trans (congrArg some (by kernel_rfl))⟩
 f24:=⟨Tryz.f289.name,by kernel_rfl,Tryz.func289.trans (congrArg some (by kernel_rfl))⟩
 f25:=⟨Tryz.f290.name,by kernel_rfl,Tryz.func290.trans (congrArg some (by kernel_rfl))⟩
 f26:=⟨Tryz.f291.name,by kernel_rfl,Tryz.func291.trans (congrArg some (by kernel_rfl))⟩
 f27:=⟨Tryz.f292.name,by kernel_rfl,Tryz.func292.trans (congrArg some (by kernel_rfl))⟩
 f28:=Tryz.func139.trans (congrArg some (by kernel_rfl))
 f29:=Tryz.func140.trans (congrArg some (by kernel_rfl))
 f46:=⟨Tryz.f294.name,by kernel_rfl,Tryz.func294.trans (congrArg some (by kernel_rfl))⟩
 f47:=Tryz.func204.trans (congrArg some (by kernel_rfl))
 f48:=Tryz.func205.trans (congrArg some (by kernel_rfl))
 f49:=⟨Tryz.f295.name,by kernel_rfl,Tryz.func295.trans (congrArg some (by kernel_rfl))⟩
 f50:=⟨Tryz.f296.name,by kernel_rfl,Tryz.func296.trans (congrArg some (by kernel_rfl))⟩
 f57:=⟨Tryz.f297.name,by kernel_rfl,Tryz.func297.trans (congrArg some (by kernel_rfl))⟩
 t0:=Tryz.underlying0
 a0:=Tryz.isAgg0
 z0:=Tryz.sizeOf0
 v0:=Tryz.zeroValue0
 t3:=Tryz.underlying3
 a3:=Tryz.isAgg3
 z3:=Tryz.sizeOf3
 v3:=Tryz.zeroValue3
 t4:=Tryz.underlying4
 a4:=Tryz.isAgg4
 z4:=Tryz.sizeOf4
 v4:=Tryz.zeroValue4
 t5:=Tryz.underlying5
 a5:=Tryz.isAgg5
 z5:=Tryz.sizeOf5
 v5:=Tryz.zeroValue5
 t9:=Tryz.underlying9
 a9:=Tryz.isAgg9
 z9:=Tryz.sizeOf9
 v9:=Tryz.zeroValue9
 t22:=Tryz.underlying22
 a22:=Tryz.isAgg22
 z22:=Tryz.sizeOf22
 v22:=Tryz.zeroValue22
 a24:=Tryz.isAgg3
 z24:=Tryz.sizeOf3
 t25:=Tryz.underlying45
 a25:=Tryz.isAgg45
 z25:=Tryz.sizeOf45
 v25:=Tryz.zeroValue45
 t39:=Tryz.underlying181
 a39:=Tryz.isAgg181
 z39:=Tryz.sizeOf181
 v39:=Tryz.zeroValue181
 t45:=Tryz.underlying210
 a45:=Tryz.isAgg210
 z45:=Tryz.sizeOf210
 v45:=Tryz.zeroValue210
 t46:=Tryz.underlying211
 a46:=Tryz.isAgg211
 z46:=Tryz.sizeOf211
 v46:=Tryz.zeroValue211
 t50:=Tryz.underlying158
 a50:=Tryz.isAgg158
 z50:=Tryz.sizeOf158
 v50:=Tryz.zeroValue158
 t53:=Tryz.underlying217
 a53:=Tryz.isAgg217
 z53:=Tryz.sizeOf217
 v53:=Tryz.zeroValue217
 t55:=Tryz.underlying219
 a55:=Tryz.isAgg219
 z55:=Tryz.sizeOf219
 v55:=Tryz.zeroValue219
 t66:=Tryz.underlying259
 a66:=Tryz.isAgg259
 z66:=Tryz.sizeOf259
 v66:=Tryz.zeroValue259
 t70:=Tryz.underlying263
 a70:=Tryz.isAgg263
 z70:=Tryz.sizeOf263
 v70:=Tryz.zeroValue263
 t76:=Tryz.underlying274
 a76:=Tryz.isAgg274
 z76:=Tryz.sizeOf274
 v76:=Tryz.zeroValue274
 t77:=Tryz.underlying275
 a77:=Tryz.isAgg275
 z77:=Tryz.sizeOf275
 v77:=Tryz.zeroValue275
end
section
open Go.Proofs Go.Sort Go.RowKit
theorem acJ(x:Int)(w:World):Calls Tryz.prog 96 #[.int .i64 x] w fun e w'=>e=.returned (.bool false)/\w'=w:=by
 go_enter Tryz.func96,Tryz.ntmps96
 go_wp2
 go_ret
 exact⟨by simp,rfl⟩
theorem acK(x:Int)(w:World):Calls Tryz.prog 280 #[.int .u64 x] w fun e w'=>e=.returned (.bool false)/\w'=w:=by
 go_enter Tryz.func280,Tryz.ntmps280
 go_wp2
 go_ret
 exact⟨by simp,rfl⟩
def q7(x y:Int):Int:=if x<y then -1 else if y<x then 1 else 0
theorem r8(x y:Int)(w:World):Calls Tryz.prog 45 #[.int .i64 x,.int .i64 y] w fun e w'=>e=.returned (.int .i64 (q7 x y))/\w'=w:=by
 go_enter Tryz.func45,Tryz.ntmps45
 go_wp2_with (go_at_call 96;refine(acJ _ _).mono ?_;rintro e w' ⟨rfl,hw⟩;rw[hw])
 all_goals(go_ret;refine⟨?_,rfl⟩;unfold q7;(repeat' split)<;>first|rfl|(exfalso;omega))
theorem Ja(x y:Int)(w:World):Calls Tryz.prog 267 #[.int .u64 x,.int .u64 y] w fun e w'=>e=.returned (.int .i64 (q7 x y))/\w'=w:=by
 go_enter Tryz.func267,Tryz.ntmps267
 go_wp2_with (go_at_call 280;refine(acK _ _).mono ?_;rintro e w' ⟨rfl,hw⟩;rw[hw])
 all_goals(go_ret;refine⟨?_,rfl⟩;unfold q7;(repeat' split)<;>first|rfl|(exfalso;omega))
theorem BM(a b:Int)(cR:Nat)(W:World)(h0:W.cell? ⟨cR,0,none⟩=some (.int .i64 a))(h1:W.cell? ⟨cR,1,none⟩=some (.int .i64 b)):Calls Tryz.prog 44 #[.slice (some ⟨cR,0,none⟩) 2 2] W fun e w'=>e=.returned (.int .i64 (if a=0 then b else a))/\w'=W:=by
 obtain⟨r,hr⟩:∃r,r=if a=0 then b else a:=⟨_,rfl⟩
 rw[<-hr]
 go_enter Tryz.func44,Tryz.ntmps44
 go_wp2
 go_loop [5,8] (fun _ i=>∃k:Nat,k<=2/\i=.int .i64 k/\(0<k->a=0)/\(1<k->b=0)) (fun _ i=>2-(intOf i).toNat)
 case atStart=>exact⟨0,by omega,rfl,fun h=>by omega,fun h=>by omega⟩
 case round=>
  obtain⟨k,hk,rfl,k1,k2⟩:=hrel
  by_cases ay:k<2
  ·obtain⟨v,hv,eB⟩:∃v:Int,W.cell? ⟨cR,k,none⟩=some (.int .i64 v)/\((k=0->v=a)/\(k=1->v=b)):=by
    rcases(by omega:k=0\/k=1)with rfl|rfl
    ·exact⟨a,h0,fun _=>rfl,fun h=>by omega⟩
    ·exact⟨b,h1,fun h=>by omega,fun _=>rfl⟩
   have hlz:(k:Int)<2:=by omega
   have hvr:v≠0->v=r:=fun h=>by
    rcases(by omega:k=0\/k=1)with rfl|rfl
    ·rw[eB.1 rfl]at h⊢;rw[hr,if_neg h]
    ·rw[eB.2 rfl,hr,if_pos (k1 (by omega))]
   have HY:v=0->(0<k+1->a=0)/\(1<k+1->b=0):=fun h=>by
    rcases(by omega:k=0\/k=1)with rfl|rfl
    ·exact⟨fun _=>by rw[<-eB.1 rfl];exact h,fun h=>by omega⟩
    ·exact⟨fun _=>k1 (by omega),fun _=>by rw[<-eB.2 rfl];exact h⟩
   clear h0 h1 hr eB k1 k2
   go_wp2
   ·go_ret
    refine⟨?_,rfl⟩
    rw[hvr (by simp_all)]
    rfl
   ·refine⟨⟨k+1,by omega,by go_num,(HY (by simp_all)).1,(HY (by simp_all)).2⟩,?_⟩
    simp[intOf];omega
  ·have hlz:¬(k:Int)<2:=by omega
   have hr0:r=0:=by rw[hr,if_pos (k1 (by omega)),k2 (by omega)]
   clear h0 h1 hr k1 k2
   subst hr0
   go_wp2
   go_ret
   exact⟨rfl,rfl⟩
theorem Wn(W:World)(A B:Array Value)(t:TypeId)(j:Nat):((W.alloc (.cells A t)).alloc (.cells B t)).drew.cell? ⟨W.heap.size,j,none⟩=A[j]?:=by
 have:((W.alloc (.cells A t)).alloc (.cells B t)).drew.heap[W.heap.size]?=some (.cells A t):=by
  show((W.heap.push _).push _)[W.heap.size]?=_
  rw[Array.getElem?_push,if_neg (by simp),Array.getElem?_push,if_pos rfl]
 unfold World.cell?
 rw[this];rfl
theorem Wo(W:World)(A B:Array Value)(t:TypeId)(j:Nat):((W.alloc (.cells A t)).alloc (.cells B t)).drew.cell? ⟨W.heap.size+1,j,none⟩=B[j]?:=by
 have:((W.alloc (.cells A t)).alloc (.cells B t)).drew.heap[W.heap.size+1]?=some (.cells B t):=by
  show((W.heap.push _).push _)[W.heap.size+1]?=_
  rw[Array.getElem?_push,if_pos (by simp)]
 unfold World.cell?
 rw[this];rfl
theorem Wp(W:World)(A:Array Value)(t:TypeId)(j:Nat):(W.alloc (.cells A t)).cell? ⟨W.heap.size,j,none⟩=A[j]?:=by
 have:(W.alloc (.cells A t)).heap[W.heap.size]?=some (.cells A t):=by
  show(W.heap.push _)[W.heap.size]?=_
  rw[Array.getElem?_push,if_pos rfl]
 unfold World.cell?
 rw[this];rfl
def Qu(x:Lt):List Value:=[.int .i64 x.f,.int .i64 x.a,.int .i64 x.n]
def Jb(x y:Lt):Int:=if q7 x.f y.f=0 then q7 x.a y.a else q7 x.f y.f
theorem abo(x y:Lt)(W:World):Calls Tryz.prog 232 #[.agg (Qu x).toArray,.agg (Qu y).toArray] W fun e w'=>e=.returned (.int .i64 (Jb x y))/\∃q Ge,w'=grow (W.drewN q) Ge:=by
 unfold Qu
 obtain⟨r,hr⟩:∃r,r=Jb x y:=⟨_,rfl⟩
 rw[<-hr]
 have mixed:Tryz.prog.follows .mixedOrders=true:=mixed
 have Au:=fun W'=>r8 x.f y.f W'
 have wI:=fun W'=>r8 x.a y.a W'
 go_enter Tryz.func232,Tryz.ntmps232
 go_wp2
 have f0:((W.alloc (.cells #[.int .i64 x.f,.int .i64 x.a,.int .i64 x.n] 71)).alloc (.cells #[.int .i64 y.f,.int .i64 y.a,.int .i64 y.n] 71)).drew.cell? ⟨W.heap.size,0,none⟩=some (.int .i64 x.f):=Wn ..
 have f1:((W.alloc (.cells #[.int .i64 x.f,.int .i64 x.a,.int .i64 x.n] 71)).alloc (.cells #[.int .i64 y.f,.int .i64 y.a,.int .i64 y.n] 71)).drew.cell? ⟨W.heap.size,1,none⟩=some (.int .i64 x.a):=Wn ..
 have g0:((W.alloc (.cells #[.int .i64 x.f,.int .i64 x.a,.int .i64 x.n] 71)).alloc (.cells #[.int .i64 y.f,.int .i64 y.a,.int .i64 y.n] 71)).drew.cell? ⟨W.heap.size+1,0,none⟩=some (.int .i64 y.f):=Wo ..
 have g1:((W.alloc (.cells #[.int .i64 x.f,.int .i64 x.a,.int .i64 x.n] 71)).alloc (.cells #[.int .i64 y.f,.int .i64 y.a,.int .i64 y.n] 71)).drew.cell? ⟨W.heap.size+1,1,none⟩=some (.int .i64 y.a):=Wo ..
 have hg:∃q Ge,((W.alloc (.cells #[.int .i64 x.f,.int .i64 x.a,.int .i64 x.n] 71)).alloc (.cells #[.int .i64 y.f,.int .i64 y.a,.int .i64 y.n] 71)).drew=grow (W.drewN q) Ge:=⟨1,_,by rw[alloc_eq_grow,alloc_eq_grow,grow_grow];rfl⟩
 generalize (W.alloc (.cells #[.int .i64 x.f,.int .i64 x.a,.int .i64 x.n] 71)).alloc (.cells #[.int .i64 y.f,.int .i64 y.a,.int .i64 y.n] 71)=W2 at*
 refine wp_region_still_tail 10 mixed (by kernel_rfl) ?_
 simp only[List.take_succ_cons,List.take_zero,List.drop_succ_cons,List.drop_zero]
 change wpStill _ _ (World.drew W2) _ _ _
 generalize hW3:World.drew W2=W3 at*
 repeat still_step
 still_call (Au _)
 repeat still_step
 still_call (wI _)
 refine wpStill_nil ?_
 clear f0 f1 g0 g1 Au wI
 unfold Jb at hr
 generalize q7 x.f y.f=r1 at*
 generalize q7 x.a y.a=r2 at*
 have HG:Hid (∃q Ge,W3=grow (W.drewN q) Ge):=hg
 have HR:Hid (r=if r1=0 then r2 else r1):=hr
 clear hg hr mixed
 refine wpList_step (fun K hK=>?_)
 go_simp
 refine hK _ _ ?_
 clear hK K
 have hc:∀j,(W3.alloc (Obj.cells #[Value.int .i64 r1,Value.int .i64 r2] 3)).cell? ⟨W3.heap.size,j,none⟩=(#[Value.int .i64 r1,Value.int .i64 r2]:Array Value)[j]?:=fun j=>Wp W3 _ _ j
 have hgw:Hid (∃q Ge,W3.alloc (Obj.cells #[Value.int .i64 r1,Value.int .i64 r2] 3)=grow (W.drewN q) Ge):=by
  obtain⟨q,os,h⟩:=HG.out
  exact⟨q,_,by rw[h,alloc_eq_grow,grow_grow]⟩
 generalize W3.alloc (Obj.cells #[Value.int .i64 r1,Value.int .i64 r2] 3)=W4 at*
 generalize W3.heap.size=sz at*
 have c0:=hc 0
 have c1:=hc 1
 clear hc HG hW3
 refine wpList_step (fun K hK=>?_)
 go_simp
 refine(BM r1 r2 sz W4 c0 c1).mono ?_
 rintro e w' ⟨rfl,rfl⟩
 refine hK _ _ ?_
 clear hK K
 refine wpList_step (fun K hK=>?_)
 go_simp
 refine hK _ _ ?_
 clear hK K c0 c1
 rw[show(if r1=0 then r2 else r1)=r from HR.out.symm]
 clear HR
 go_wp2
 go_ret
 exact⟨rfl,hgw.out⟩
end
section
open Go.TM
def ga(n m:Int):Int:=if n.tmod m<0 then n.tmod m+m else n.tmod m
theorem vd(n m:Int)(hm:1<=m):0<=ga n m/\ga n m<m:=by
 unfold ga
 have h1:=Int.tmod_lt_of_pos n (show 0<m by omega)
 have h2:=Int.lt_tmod_of_pos n (show 0<m by omega)
 split<;>omega
def pick(l:List Int)(i m:Int):Int:=if i<0 then 0 else match l[i.toNat]? with
 |some x=>ga x m
 |none=>0
theorem fR(l:List Int)(i m:Int)(hm:1<=m):0<=pick l i m/\pick l i m<m:=by
 unfold pick
 split
 ·omega
 ·split
  ·exact vd _ m hm
  ·omega
variable [bj]
theorem vZ(n m:Int)(hm:1<=m)(SY:m<=4611686018427387904):aR Tryz.prog 16 [I n,I m] [I (ga n m)]:=by
 refine pO Tryz.func16 rfl (by kernel_rfl) rfl ?_
 have h1:=Int.tmod_lt_of_pos n (show 0<m by omega)
 have h2:=Int.lt_tmod_of_pos n (show 0<m by omega)
 refine⟨fun _=>by omega,fun h=>?_,fun h=>?_⟩
 ·have h':n.tmod m<0:=ad5 h
  exact⟨fun _=>by omega,aG (by rw[ga,if_pos h']),tv⟩
 ·have h':¬n.tmod m<0:=ad6 h
  exact⟨aG (by rw[ga,if_neg h']),tv⟩
theorem aT(l:List Int)(i m:Int)(hm:1<=m)(SY:m<=4611686018427387904):aR Tryz.prog 32 [Ints l,I i,I m] [I (pick l i m)]:=by
 refine pO Tryz.func32 rfl (by kernel_rfl) rfl ?_
 repeat refine gG ?_
 refine⟨fun h=>?_,fun h=>?_⟩
 ·refine⟨aG ?_,tv⟩
  unfold pick
  split
  ·rfl
  ·rename_i hi
   have hm':¬m<1:=by omega
   have:(l.length:Int)<=i:=by simpa[hi,hm']using h
   rw[List.getElem?_eq_none (by omega)]
 ·have hi:¬i<0:=fun hi=>by simp[hi]at h
  have uf:¬(l.length:Int)<=i:=fun uf=>by simp[hi,uf]at h
  have ay:i.toNat<l.length:=by omega
  refine⟨I l[i.toNat],fun _=>⟨by omega,by simp[ay]⟩,?_⟩
  refine .inl ⟨_,fun _=>(vZ _ m hm (by omega)).ok,aG ?_,tv⟩
  unfold pick
  rw[if_neg hi,ace ay]
theorem BN(l:List Lt)(hl:l.length<=1000000):aR Tryz.prog 54 [aQ l,aQ l] [B true]:=by
 refine pO Tryz.func54 rfl (by kernel_rfl) rfl ?_
 have lp:(l.map ax).length=l.length:=adO ..
 refine adN (fun h=>by simp at h) fun _=>?_
 refine⟨Nat,fun i=>⟨0,[(0,.dv (aQ l)),(1,.dv (aQ l)),(5,.dv (I i))],[]⟩,fun i=>i<=l.length,fun i=>l.length-i,0,fun _=>rfl,jn rfl rfl rfl rfl,ad3 _,?_⟩
 rintro i hi
 refine adN ?_ ?_
 ·intro h
  have ay:i<l.length:=by have:=ad5 h;omega
  obtain⟨x,hx⟩:∃x,l[i]?=some x:=⟨_,ace ay⟩
  have ix:(l.map ax)[(i:Int).toNat]?=some (ax x):=by rw[adQ];simp[hx]
  refine⟨ax x,fun _=>⟨by omega,ix⟩,ax x,fun _=>⟨by omega,ix⟩,?_⟩
  refine⟨by kernel_rfl,adN (fun h=>by simp at h) fun _=>?_⟩
  exact⟨fun _=>by omega,i+1,jn rfl rfl rfl rfl,by omega,mlt ay⟩
 ·intro h
  exact⟨rf,tv⟩
end
section
open Go.TM
variable [bj]
end
section
open Go.TM Go.Proofs Go.Sort Go.Shelf
theorem tD{w:World}{cR:Nat}{c:Array Value}{t:TypeId}(h:w.heap[cR]?=some (.cells c t (0,0)))(o:Nat):w.frozen? ⟨cR,o,none⟩=false:=by
 unfold World.frozen?
 rw[h];simp
theorem Lj{α:Type}(d:Array α):d.extract 0 d.size=d:=by simp
section
variable [cq]
theorem Jc{P:Program}{f:Nat}(qV:gM P f){args:List AV}{m:Nat}{K:ad}(hK:∀i,m<=i->aa K i=.none)
 (bH:∀(w:World) (G:Gh) (vs:List Value),nC G.M->Fit G w (aa K)->cC G args vs->Calls P f vs.toArray w fun e w'=>e=.returned (.tuple #[])/\w'=w):aj P f args m K 0 [] K:=by
 refine⟨qV,fun w G vs nM cY hr=>Calls.mono (bH w G vs nM cY hr) ?_⟩
 rintro e w' ⟨rfl,rfl⟩
 exact⟨_,[],K,G,rfl,⟨rfl,rfl⟩,⟨cY,fun i hi=>hK i (by omega),.gm [] [] rfl (by simp),.refl _,fun _ _=>rfl,fun _ _ _ _ h=>h,fun _ _ _=>⟨rfl,rfl⟩,fun i b o=>.inr ⟨i,o⟩,rfl,rfl,rfl,aei _⟩⟩
theorem nZ{P:Program}{f:Nat}{args:List AV}{m ex:Nat}{K:ad}{Q Q':List AV->ad->Prop}(h:bU P f args m K ex Q)(hQ:∀r k,Q r k->Q' r k):bU P f args m K ex Q':=
 ⟨h.1,fun w G vs a b c=>Calls.mono (h.2 w G vs a b c) fun _ _ ⟨v,r,k,G',h1,h2,h3⟩=>⟨v,r,k,G',h1,hQ r k h2,h3⟩⟩
theorem UG{G:Gh}{w:World}{k:Nat}{K3:ad}{x:AV}{vs:List Value}(cY:Fit G w (aa ((0,.tree 0 0 (.aD k []))::K3)))(hr:cC G [.own 0 0 0 [],x] vs):∃p cap fv,vs=[.slice p 0 cap,fv]:=by
 match vs,hr.1 with
 |[u,fv],_=>
  have hu:=hr.2 0 _ u rfl rfl
  cases hu with|own _ _ _ _ _ hu PY=>
  obtain⟨u0,Li,_,bq⟩:=cY.node (p:=[]) (show aa ((0,az.tree 0 0 (.aD k []))::K3) 0=.tree 0 0 (.aD k [])from rfl) rfl rfl
  rw[hu]at Li;injection Li with Li;subst Li
  rcases gS.1 bq with⟨_,rfl⟩|⟨cR,off,cap,c,t,rfl,_⟩
  ·exact⟨none,0,fv,rfl⟩
  ·exact⟨_,cap,fv,rfl⟩
theorem X9{G:Gh}{g:Nat}{v:Value}(h:aI G (.dv (.fn g [])) v):v=.func (.func g) #[] #[]:=by
 cases h with
 |dv h=>
  cases h with
  |fn _ _ vs hl _=>
   have:vs=[]:=List.length_eq_zero_iff.1 (by simpa using hl.symm)
   subst this;rfl
theorem Dk{P:Program}{ρ:Ren}(L:SlLaysF0.n6 P ρ)(qV:gM P (ρ.f 6)){α:Type}[Inhabited α]{vals:α->List Int}{e:α->DV}{k:Nat}(EW:0<k)(he:∀x,(e x).cells=(vals x).map fun n=>DV.int .i64 n)(hk:∀x,(vals x).length=k)
 (aE:∀w,(isAgg (ρ.t 24)).run P w=.ok true w) (zE:∀w,(Go.sizeOf (ρ.t 24)).run P w=.ok k w) (cf:α->α->Int) (hO:SWO (ltOf cf)) (g:Nat) (eg:∀args w,(callFunc g args).run P w=.ok (.enter g args) w)
 (acL:∀(x y:α) (W:World),Calls P g #[.agg ((vals x).map (Value.int .i64)).toArray,.agg ((vals y).map (Value.int .i64)).toArray] W fun e w'=>e=.returned (.int .i64 (cf x y))/\∃q Ge,w'=grow (W.drewN q) Ge)
 (l:List α) (cb:l.length<4611686018427387904):
 bU P (ρ.f 6) [.own 0 0 0 [],.dv (.fn g [])] 1 [(0,.tree 0 0 (.aD k (l.map e)))] 0 fun rs K'=>rs=[]/\∃l':List α,(l'.Perm l/\l'.Pairwise fun x y=>ltOf cf y x=false)/\K'=[(0,.tree 0 0 (.aD k (l'.map e)))]:=by
 by_cases c6:l=[]
 ·subst c6
  refine nZ (Jc qV (fun i hi=>(by match i,hi with|i+1,_=>rfl)) fun w G vs nM cY hr=>?_) fun r k' iM=>⟨iM.1,[],⟨.refl _,.nil⟩,iM.2⟩
  obtain⟨p,cap,fv,rfl⟩:=UG (K3:=[]) cY hr
  exact AnyF.slices_SortFunc_none L p cap fv w
 refine nZ (vW qV he hk c6 (by omega) (K3:=[]) (fun _ _=>rfl) (fun l':List α=>l'.Perm l/\l'.Pairwise fun x y=>ltOf cf y x=false) (fun l' h=>h.1.length_eq) ?_) fun r k' iM=>iM
 rintro w G cR off cap xs cY nM hr _ ⟨c,t,hblk,cK⟩
 obtain⟨fv,rfl⟩:∃fv,xs=[fv]:=by
  match xs,hr.1 with
  |[a],_=>exact⟨a,rfl⟩
 have hfv:=X9 (hr.2 0 _ fv rfl rfl)
 subst hfv
 have H4:cR<w.heap.size:=(ad2.1 hblk).1
 have lM:∀(d:Array α) (tt:Nat),tt<d.size*k->∃x,d.toList[tt/k]?=some x/\∃n,(vals x)[tt%k]?=some n/\(flatK (fun x=>(vals x).map (Value.int .i64)) k d)[tt]! = .int .i64 n:=fun d tt ht=>by
  have h1:tt/k<d.size:=(Nat.div_lt_iff_lt_mul EW).2 ht
  have h2:tt%k<(vals d[tt/k]).length:=by rw[hk];exact Nat.mod_lt _ EW
  refine⟨d[tt/k],by simp[h1],(vals d[tt/k])[tt%k],ace h2,?_⟩
  rw[get_flatK _ _ _ _ ht,getElem!_pos d _ h1,getElem!_pos _ _ (by simpa using h2)]
  simp
 have hH:HoldsK (fun x=>(vals x).map (Value.int .i64)) k w cR off l.toArray:=fun j hj=>by
  rw[size_flatK]at hj
  obtain⟨x,hx,n,hn,hf⟩:=lM _ j hj
  have h3:=cK (j/k) x (j%k) n (by simpa using hx) hn
  rw[show off+j/k*k+j%k=off+j by rw[Nat.add_assoc,Nat.div_add_mod' j k]]at h3
  refine⟨?_,tD hblk _⟩
  rw[hf]
  unfold World.cell?
  rw[hblk]
  exact h3
 have UH:=AnyQ.slices_SortFunc L k aE zE (fun x=>(vals x).map (Value.int .i64)) (fun x=>by rw[adO,hk]) (fun x v hv=>by obtain⟨n,_,rfl⟩:=aeg.1 hv;rfl) cf hO g #[] cR off cap l.toArray w eg (fun m os dk hs x y=>by simpa using acL x y _) hH H4 (by simpa using cb)
 refine Calls.mono UH ?_
 rintro en w' ⟨rfl,d',n,os,hp,hs,rfl⟩
 have Aa:d'.size=l.length:=by simpa using hp.1
 have y8:d'.toList.Perm l:=by
  have:=hp.2.2
  rw[show l.toArray.size=d'.size by simp[Aa],Lj,show d'.size=l.toArray.size by simp[Aa],Lj]at this
  simpa using this
 refine⟨rfl,d'.toList,⟨y8,?_⟩,?_⟩
 ·rw[List.pairwise_iff_getElem]
  intro i j hi hj wX
  have:=hs i j (ad3 _) wX (by simpa[Aa]using hj)
  rw[getElem!_pos d' j (by simpa using hj),getElem!_pos d' i (by simpa using hi)]at this
  simpa using this
 ·refine vY (F:=flatK (fun x=>(vals x).map (Value.int .i64)) k d') H4 (fun i x j n hx hn=>?_) fun c' t' fr' qR=>?_
  ·have hj:j<k:=by have:=(adP.1 hn).1;rw[hk]at this;exact this
   have hi:i<d'.size:=by have:=(adP.1 hx).1;simpa using this
   have ay:i*k+j<d'.size*k:=by
    have:(i+1)*k<=d'.size*k:=aej _ hi
    rw[Nat.add_mul,Nat.one_mul]at this;omega
   refine⟨by rw[size_flatK];exact ay,?_⟩
   obtain⟨x2,S5,n2,N4,hf⟩:=lM d' (i*k+j) ay
   have q1:(i*k+j)/k=i:=by rw[Nat.mul_comm,Nat.mul_add_div EW,Nat.div_eq_of_lt hj];rfl
   have q2:(i*k+j)%k=j:=by rw[Nat.mul_comm,Nat.mul_add_mod,Nat.mod_eq_of_lt hj]
   rw[q1,hx]at S5;injection S5 with S5;subst S5
   rw[q2,hn]at N4;injection N4 with N4;subst N4
   exact hf
  ·rw[size_flatK]
   rw[hblk]at qR;injection qR with qR;injection qR with Au _ _;subst Au
   have hl0:0<l.length:=List.length_pos_iff.2 c6
   have ay:d'.size*k-1<l.toArray.size*k:=by
    have:=Nat.mul_pos hl0 EW
    simp[Aa];omega
   obtain⟨x,hx,n2,N4,_⟩:=lM l.toArray _ ay
   have h3:=cK _ x _ n2 (by simpa using hx) N4
   have:=(ad2.1 h3).1
   rw[Nat.add_assoc,Nat.div_add_mod']at this
   omega
end
instance:Inhabited Lt:=⟨⟨0,0,0⟩⟩
theorem xk(x y:Lt):ltOf Jb x y=decide (x.f<y.f\/x.f=y.f/\x.a<y.a):=by
 unfold ltOf Jb q7
 by_cases h1:x.f<y.f
 ·simp[h1]
 ·by_cases h2:y.f<x.f
  ·simp[h1,h2];omega
  ·have:x.f=y.f:=by omega
   simp[this]
   split<;>rename_i h3
   ·simp;omega
   ·split<;>simp<;>omega
theorem Ya:SWO (ltOf Jb)where
 irrefl x:=by rw[xk];simp
 trans x y z h1 h2:=by rw[xk]at *; simp at *; omega
 ntrans x y z h1 h2:=by rw[xk]at *; simp at *; omega
variable [bj]
theorem Gf(l:List Lt)(hl:l.length<=1000000):bU Tryz.prog 231 [.own 0 0 0 [],.dv (.fn 232 [])] 1 [(0,.tree 0 0 (.aD 3 (l.map ax)))] 0 fun rs K'=>rs=[]/\∃l':List Lt,(l'.Perm l/\l'.Pairwise leq)/\K'=[(0,.tree 0 0 (.aD 3 (l'.map ax)))]:=
 nZ (Dk (vals:=fun x:Lt=>[x.f,x.a,x.n]) (e:=ax) X8 ⟨_,Tryz.func231,by kernel_rfl,rfl⟩ (by omega) (fun _=>rfl) (fun _=>rfl) Tryz.isAgg71 Tryz.sizeOf71 Jb Ya 232 (enters_of Tryz.func232 (by kernel_rfl) rfl) abo l (by omega)) fun r k ⟨h1,l',⟨h2,h3⟩,h4⟩=>⟨h1,l',⟨h2,h3.imp fun {x y} h=>by
  rw[xk]at h
  unfold leq
  simp at h;omega⟩,h4⟩
end
end Go.Proofs.YtfpebgpgabjieaaGreatDoor
