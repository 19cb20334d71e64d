import Derived.Test.YtfpebgpgabjieaaGreatDoorHM18
import Derived.Test.YtfpebgpgabjieaaGreatDoorHM22
import Derived.WalkKit
import Derived.Deep.LoopGhost
import Derived.LoopTactic
import Derived.StillTailTactics
import Derived.Shelf.SlSortCmp.QuietGrown
import Derived.Test.YtfpebgpgabjieaaGreatDoorHM21
import Derived.Test.YtfpebgpgabjieaaGreatDoorHM20
import Derived.Shelf.SlSortCmp.NoneTotal
set_option linter.all false
open Go.TM.oA Go.TM.oB Go.TM.oC Go.TM.oD Go.TM.oE
namespace Go.Proofs.YtfpebgpgabjieaaGreatDoor
set_option maxRecDepth 100000
set_option maxHeartbeats 4000000
section
open Go.Proofs
def Ij:Go.Shelf.Ren:=⟨fun|6=>231|15=>95|14=>242|28=>139|29=>140|20=>254|21=>255|22=>256|23=>257|24=>258|25=>259|26=>260|27=>261|46=>273|47=>204|48=>205|49=>274|50=>275|57=>283|n=>n,fun|22=>46|24=>71|25=>278|3=>3|39=>181|0=>0|53=>217|55=>219|4=>4|46=>211|45=>210|50=>158|5=>5|9=>9|66=>259|70=>263|76=>274|77=>275|n=>n,fun|n=>n⟩
theorem XT:Go.Proofs.SlLaysF0.n6 Tryz.prog Ij where
 mixed:=by kernel_rfl
 f6:=⟨Tryz.f231.name,by kernel_rfl,Tryz.func231.trans (congrArg some (by kernel_rfl))⟩
 f14:=⟨Tryz.f242.name,by kernel_rfl,Tryz.func242.trans (congrArg some (by kernel_rfl))⟩
 f15:=Tryz.func95.trans (congrArg some (by kernel_rfl))
 f20:=⟨Tryz.f254.name,by kernel_rfl,Tryz.func254.trans (congrArg some (by kernel_rfl))⟩
 f21:=⟨Tryz.f255.name,by kernel_rfl,Tryz.func255.trans (congrArg some (by kernel_rfl))⟩
 f22:=⟨Tryz.f256.name,by kernel_rfl,Tryz.func256.trans (congrArg some (by kernel_rfl))⟩
 f23:=⟨Tryz.f257.name,by kernel_rfl,Tryz.func257.trans (congrArg some (by kernel_rfl))⟩
 f24:=⟨Tryz.f258.name,by kernel_rfl,Tryz.func258.trans (congrArg some (by kernel_rfl))⟩
 f25:=⟨Tryz.f259.name,by kernel_rfl,Tryz.func259.trans (congrArg some (by kernel_rfl))⟩
 f26:=⟨Tryz.f260.name,by kernel_rfl,Tryz.func260.trans (congrArg some (by kernel_rfl))⟩
 f27:=⟨Tryz.f261.name,by kernel_rfl,Tryz.func261.trans (congrArg some (by kernel_rfl))⟩
 f28:=Tryz.func139.trans (congrArg some (by kernel_rfl))
 f29:=Tryz.func140.trans (congrArg some (by kernel_rfl))
 f46:=⟨Tryz.f273.name,by kernel_rfl,Tryz.func273.trans (congrArg some (by kernel_rfl))⟩
 f47:=Tryz.func204.trans (congrArg some (by kernel_rfl))
 f48:=Tryz.func205.trans (congrArg some (by kernel_rfl))
 f49:=⟨Tryz.f274.name,by kernel_rfl,Tryz.func274.trans (congrArg some (by kernel_rfl))⟩
 f50:=⟨Tryz.f275.name,by kernel_rfl,Tryz.func275.trans (congrArg some (by kernel_rfl))⟩
 f57:=⟨Tryz.f283.name,by kernel_rfl,Tryz.func283.trans (congrArg some (by kernel_rfl))⟩
 t0:=Tryz.underlying0
 a0:=Tryz.isAgg0
 z0:=Tryz.sizeOf0
 v0:=Tryz.zeroValue0
 t3:=Tryz.underlying3
 a3:=Tryz.isAgg3
 z3:=Tryz.sizeOf3
 v3:=Tryz.zeroValue3
 t4:=Tryz.underlying4
 a4:=Tryz.isAgg4
 z4:=Tryz.sizeOf4
 v4:=Tryz.zeroValue4
 t5:=Tryz.underlying5
 a5:=Tryz.isAgg5
 z5:=Tryz.sizeOf5
 v5:=Tryz.zeroValue5
 t9:=Tryz.underlying9
 a9:=Tryz.isAgg9
 z9:=Tryz.sizeOf9
 v9:=Tryz.zeroValue9
 t22:=Tryz.underlying46
 a22:=Tryz.isAgg46
 z22:=Tryz.sizeOf46
 v22:=Tryz.zeroValue46
 t25:=Tryz.underlying278
 a25:=Tryz.isAgg278
 z25:=Tryz.sizeOf278
 v25:=Tryz.zeroValue278
 t39:=Tryz.underlying181
 a39:=Tryz.isAgg181
 z39:=Tryz.sizeOf181
 v39:=Tryz.zeroValue181
 t45:=Tryz.underlying210
 a45:=Tryz.isAgg210
 z45:=Tryz.sizeOf210
 v45:=Tryz.zeroValue210
 t46:=Tryz.underlying211
 a46:=Tryz.isAgg211
 z46:=Tryz.sizeOf211
 v46:=Tryz.zeroValue211
 t50:=Tryz.underlying158
 a50:=Tryz.isAgg158
 z50:=Tryz.sizeOf158
 v50:=Tryz.zeroValue158
 t53:=Tryz.underlying217
 a53:=Tryz.isAgg217
 z53:=Tryz.sizeOf217
 v53:=Tryz.zeroValue217
 t55:=Tryz.underlying219
 a55:=Tryz.isAgg219
 z55:=Tryz.sizeOf219
 v55:=Tryz.zeroValue219
 t66:=Tryz.underlying259
 a66:=Tryz.isAgg259
 z66:=Tryz.sizeOf259
 v66:=Tryz.zeroValue259
 t70:=Tryz.underlying263
 a70:=Tryz.isAgg263
 z70:=Tryz.sizeOf263
 v70:=Tryz.zeroValue263
 t76:=Tryz.underlying274
 a76:=Tryz.isAgg274
 z76:=Tryz.sizeOf274
 v76:=Tryz.zeroValue274
 t77:=Tryz.underlying275
 a77:=Tryz.isAgg275
 z77:=Tryz.sizeOf275
 v77:=Tryz.zeroValue275
def rW:Go.Shelf.Ren:=⟨fun|6=>265|15=>95|14=>279|28=>139|29=>140|20=>285|21=>286|22=>287|23=>288|24=>289|25=>290|26=>291|27=>292|46=>294|47=>204|48=>205|49=>295|50=>296|57=>297|n=>n,fun|22=>22|24=>3|25=>45|3=>3|39=>181|0=>0|53=>217|55=>219|4=>4|46=>211|45=>210|50=>158|5=>5|9=>9|66=>259|70=>263|76=>274|77=>275|n=>n,fun|n=>n⟩
theorem PZ:Go.Proofs.SlLaysF.n6 Tryz.prog rW where
 mixed:=by kernel_rfl
 f6:=⟨Tryz.f265.name,by kernel_rfl,Tryz.func265.trans (congrArg some (by kernel_rfl))⟩
 f14:=⟨Tryz.f279.name,by kernel_rfl,Tryz.func279.trans (congrArg some (by kernel_rfl))⟩
 f15:=Tryz.func95.trans (congrArg some (by kernel_rfl))
 f20:=⟨Tryz.f285.name,by kernel_rfl,Tryz.func285.trans (congrArg some (by kernel_rfl))⟩
 f21:=⟨Tryz.f286.name,by kernel_rfl,Tryz.func286.trans (congrArg some (by kernel_rfl))⟩
 f22:=⟨Tryz.f287.name,by kernel_rfl,Tryz.func287.trans (congrArg some (by kernel_rfl))⟩
 f23:=⟨Tryz.f288.name,by kernel_rfl,Tryz.func288.trans (congrArg some (by kernel_rfl))⟩
 f24:=⟨Tryz.f289.name,by kernel_rfl,Tryz.func289.trans (congrArg some (by kernel_rfl))⟩
 f25:=⟨Tryz.f290.name,by kernel_rfl,Tryz.func290.trans (congrArg some (by kernel_rfl))⟩
 f26:=⟨Tryz.f291.name,by kernel_rfl,Tryz.func291.trans (congrArg some (by kernel_rfl))⟩
 f27:=⟨Tryz.f292.name,by kernel_rfl,Tryz.func292.trans (congrArg some (by kernel_rfl))⟩
 f28:=Tryz.func139.trans (congrArg some (by kernel_rfl))
 f29:=Tryz.func140.trans (congrArg some (by kernel_rfl))
 f46:=⟨Tryz.f294.name,by kernel_rfl,Tryz.func294.trans (congrArg some (by kernel_rfl))⟩
 f47:=Tryz.func204.trans (congrArg some (by kernel_rfl))
 f48:=Tryz.func205.trans (congrArg some (by kernel_rfl))
 f49:=⟨Tryz.f295.name,by kernel_rfl,Tryz.func295.trans (congrArg some (by kernel_rfl))⟩
 f50:=⟨Tryz.f296.name,by kernel_rfl,Tryz.func296.trans (congrArg some (by kernel_rfl))⟩
 f57:=⟨Tryz.f297.name,by kernel_rfl,Tryz.func297.trans (congrArg some (by kernel_rfl))⟩
 t0:=Tryz.underlying0
 a0:=Tryz.isAgg0
 z0:=Tryz.sizeOf0
 v0:=Tryz.zeroValue0
 t3:=Tryz.underlying3
 a3:=Tryz.isAgg3
 z3:=Tryz.sizeOf3
 v3:=Tryz.zeroValue3
 t4:=Tryz.underlying4
 a4:=Tryz.isAgg4
 z4:=Tryz.sizeOf4
 v4:=Tryz.zeroValue4
 t5:=Tryz.underlying5
 a5:=Tryz.isAgg5
 z5:=Tryz.sizeOf5
 v5:=Tryz.zeroValue5
 t9:=Tryz.underlying9
 a9:=Tryz.isAgg9
 z9:=Tryz.sizeOf9
 v9:=Tryz.zeroValue9
 t22:=Tryz.underlying22
 a22:=Tryz.isAgg22
 z22:=Tryz.sizeOf22
 v22:=Tryz.zeroValue22
 a24:=Tryz.isAgg3
 z24:=Tryz.sizeOf3
 t25:=Tryz.underlying45
 a25:=Tryz.isAgg45
 z25:=Tryz.sizeOf45
 v25:=Tryz.zeroValue45
 t39:=Tryz.underlying181
 a39:=Tryz.isAgg181
 z39:=Tryz.sizeOf181
 v39:=Tryz.zeroValue181
 t45:=Tryz.underlying210
 a45:=Tryz.isAgg210
 z45:=Tryz.sizeOf210
 v45:=Tryz.zeroValue210
 t46:=Tryz.underlying211
 a46:=Tryz.isAgg211
 z46:=Tryz.sizeOf211
 v46:=Tryz.zeroValue211
 t50:=Tryz.underlying158
 a50:=Tryz.isAgg158
 z50:=Tryz.sizeOf158
 v50:=Tryz.zeroValue158
 t53:=Tryz.underlying217
 a53:=Tryz.isAgg217
 z53:=Tryz.sizeOf217
 v53:=Tryz.zeroValue217
 t55:=Tryz.underlying219
 a55:=Tryz.isAgg219
 z55:=Tryz.sizeOf219
 v55:=Tryz.zeroValue219
 t66:=Tryz.underlying259
 a66:=Tryz.isAgg259
 z66:=Tryz.sizeOf259
 v66:=Tryz.zeroValue259
 t70:=Tryz.underlying263
 a70:=Tryz.isAgg263
 z70:=Tryz.sizeOf263
 v70:=Tryz.zeroValue263
 t76:=Tryz.underlying274
 a76:=Tryz.isAgg274
 z76:=Tryz.sizeOf274
 v76:=Tryz.zeroValue274
 t77:=Tryz.underlying275
 a77:=Tryz.isAgg275
 z77:=Tryz.sizeOf275
 v77:=Tryz.zeroValue275
end
section
open Go.Proofs Go.Sort Go.RowKit
theorem acb(x:Int)(w:World):Calls Tryz.prog 96 #[.int .i64 x] w fun e w'=>e=.returned (.bool false)/\w'=w:=by
 go_enter Tryz.func96,Tryz.ntmps96
 go_wp2
 go_ret
 exact⟨by simp,rfl⟩
theorem acd(x:Int)(w:World):Calls Tryz.prog 280 #[.int .u64 x] w fun e w'=>e=.returned (.bool false)/\w'=w:=by
 go_enter Tryz.func280,Tryz.ntmps280
 go_wp2
 go_ret
 exact⟨by simp,rfl⟩
def qP(x y:Int):Int:=if x<y then -1 else if y<x then 1 else 0
theorem rX(x y:Int)(w:World):Calls Tryz.prog 45 #[.int .i64 x,.int .i64 y] w fun e w'=>e=.returned (.int .i64 (qP x y))/\w'=w:=by
 go_enter Tryz.func45,Tryz.ntmps45
 go_wp2_with (go_at_call 96;refine(acb _ _).mono ?_;rintro e w' ⟨rfl,hw⟩;rw[hw])
 all_goals(go_ret;refine⟨?_,rfl⟩;unfold qP;(repeat' split)<;>first|rfl|(exfalso;omega))
theorem Ik(x y:Int)(w:World):Calls Tryz.prog 267 #[.int .u64 x,.int .u64 y] w fun e w'=>e=.returned (.int .i64 (qP x y))/\w'=w:=by
 go_enter Tryz.func267,Tryz.ntmps267
 go_wp2_with (go_at_call 280;refine(acd _ _).mono ?_;rintro e w' ⟨rfl,hw⟩;rw[hw])
 all_goals(go_ret;refine⟨?_,rfl⟩;unfold qP;(repeat' split)<;>first|rfl|(exfalso;omega))
theorem Bl(a b:Int)(c5:Nat)(W:World)(h0:W.cell? ⟨c5,0,none⟩=some (.int .i64 a))(h1:W.cell? ⟨c5,1,none⟩=some (.int .i64 b)):Calls Tryz.prog 44 #[.slice (some ⟨c5,0,none⟩) 2 2] W fun e w'=>e=.returned (.int .i64 (if a=0 then b else a))/\w'=W:=by
 obtain⟨r,hr⟩:∃r,r=if a=0 then b else a:=⟨_,rfl⟩
 rw[<-hr]
 go_enter Tryz.func44,Tryz.ntmps44
 go_wp2
 go_loop [5,8] (fun _ i=>∃k:Nat,k<=2/\i=.int .i64 k/\(0<k->a=0)/\(1<k->b=0)) (fun _ i=>2-(intOf i).toNat)
 case atStart=>exact⟨0,by omega,rfl,fun h=>by omega,fun h=>by omega⟩
 case round=>
  obtain⟨k,hk,rfl,k1,k2⟩:=hrel
  by_cases aB:k<2
  ·obtain⟨v,hv,eB⟩:∃v:Int,W.cell? ⟨c5,k,none⟩=some (.int .i64 v)/\((k=0->v=a)/\(k=1->v=b)):=by
    rcases(by omega:k=0\/k=1)with rfl|rfl
    ·exact⟨a,h0,fun _=>rfl,fun h=>by omega⟩
    ·exact⟨b,h1,fun h=>by omega,fun _=>rfl⟩
   have hlz:(k:Int)<2:=by omega
   have hvr:v≠0->v=r:=fun h=>by
    rcases(by omega:k=0\/k=1)with rfl|rfl
    ·rw[eB.1 rfl]at h⊢;rw[hr,if_neg h]
    ·rw[eB.2 rfl,hr,if_pos (k1 (by omega))]
   have GZ:v=0->(0<k+1->a=0)/\(1<k+1->b=0):=fun h=>by
    rcases(by omega:k=0\/k=1)with rfl|rfl
    ·exact⟨fun _=>by rw[<-eB.1 rfl];exact h,fun h=>by omega⟩
    ·exact⟨fun _=>k1 (by omega),fun _=>by rw[<-eB.2 rfl];exact h⟩
   clear h0 h1 hr eB k1 k2
   go_wp2
   ·go_ret
    refine⟨?_,rfl⟩
    rw[hvr (by simp_all)]
    rfl
   ·refine⟨⟨k+1,by omega,by go_num,(GZ (by simp_all)).1,(GZ (by simp_all)).2⟩,?_⟩
    simp[intOf];omega
  ·have hlz:¬(k:Int)<2:=by omega
   have ZW:r=0:=by rw[hr,if_pos (k1 (by omega)),k2 (by omega)]
   clear h0 h1 hr k1 k2
   subst ZW
   go_wp2
   go_ret
   exact⟨rfl,rfl⟩
theorem Wd(W:World)(A B:Array Value)(t:TypeId)(j:Nat):((W.alloc (.cells A t)).alloc (.cells B t)).drew.cell? ⟨W.heap.size,j,none⟩=A[j]?:=by
 have:((W.alloc (.cells A t)).alloc (.cells B t)).drew.heap[W.heap.size]?=some (.cells A t):=by
  show((W.heap.push _).push _)[W.heap.size]?=_
  rw[Array.getElem?_push,if_neg (by simp),Array.getElem?_push,if_pos rfl]
 unfold World.cell?
 rw[this];rfl
theorem We(W:World)(A B:Array Value)(t:TypeId)(j:Nat):((W.alloc (.cells A t)).alloc (.cells B t)).drew.cell? ⟨W.heap.size+1,j,none⟩=B[j]?:=by
 have:((W.alloc (.cells A t)).alloc (.cells B t)).drew.heap[W.heap.size+1]?=some (.cells B t):=by
  show((W.heap.push _).push _)[W.heap.size+1]?=_
  rw[Array.getElem?_push,if_pos (by simp)]
 unfold World.cell?
 rw[this];rfl
theorem Wf(W:World)(A:Array Value)(t:TypeId)(j:Nat):(W.alloc (.cells A t)).cell? ⟨W.heap.size,j,none⟩=A[j]?:=by
 have:(W.alloc (.cells A t)).heap[W.heap.size]?=some (.cells A t):=by
  show(W.heap.push _)[W.heap.size]?=_
  rw[Array.getElem?_push,if_pos rfl]
 unfold World.cell?
 rw[this];rfl
def P0(x:Lt):List Value:=[.int .i64 x.f,.int .i64 x.a,.int .i64 x.n]
def Il(x y:Lt):Int:=if qP x.f y.f=0 then qP x.a y.a else qP x.f y.f
theorem aaQ(x y:Lt)(W:World):Calls Tryz.prog 232 #[.agg (P0 x).toArray,.agg (P0 y).toArray] W fun e w'=>e=.returned (.int .i64 (Il x y))/\∃q FA,w'=grow (W.drewN q) FA:=by
 unfold P0
 obtain⟨r,hr⟩:∃r,r=Il x y:=⟨_,rfl⟩
 rw[<-hr]
 have mixed:Tryz.prog.follows .mixedOrders=true:=mixed
 have D5:=fun W'=>rX x.f y.f W'
 have AO:=fun W'=>rX x.a y.a W'
 go_enter Tryz.func232,Tryz.ntmps232
 go_wp2
 have f0:((W.alloc (.cells #[.int .i64 x.f,.int .i64 x.a,.int .i64 x.n] 71)).alloc (.cells #[.int .i64 y.f,.int .i64 y.a,.int .i64 y.n] 71)).drew.cell? ⟨W.heap.size,0,none⟩=some (.int .i64 x.f):=Wd ..
 have f1:((W.alloc (.cells #[.int .i64 x.f,.int .i64 x.a,.int .i64 x.n] 71)).alloc (.cells #[.int .i64 y.f,.int .i64 y.a,.int .i64 y.n] 71)).drew.cell? ⟨W.heap.size,1,none⟩=some (.int .i64 x.a):=Wd ..
 have g0:((W.alloc (.cells #[.int .i64 x.f,.int .i64 x.a,.int .i64 x.n] 71)).alloc (.cells #[.int .i64 y.f,.int .i64 y.a,.int .i64 y.n] 71)).drew.cell? ⟨W.heap.size+1,0,none⟩=some (.int .i64 y.f):=We ..
 have g1:((W.alloc (.cells #[.int .i64 x.f,.int .i64 x.a,.int .i64 x.n] 71)).alloc (.cells #[.int .i64 y.f,.int .i64 y.a,.int .i64 y.n] 71)).drew.cell? ⟨W.heap.size+1,1,none⟩=some (.int .i64 y.a):=We ..
 have hg:∃q FA,((W.alloc (.cells #[.int .i64 x.f,.int .i64 x.a,.int .i64 x.n] 71)).alloc (.cells #[.int .i64 y.f,.int .i64 y.a,.int .i64 y.n] 71)).drew=grow (W.drewN q) FA:=⟨1,_,by rw[alloc_eq_grow,alloc_eq_grow,grow_grow];rfl⟩
 generalize (W.alloc (.cells #[.int .i64 x.f,.int .i64 x.a,.int .i64 x.n] 71)).alloc (.cells #[.int .i64 y.f,.int .i64 y.a,.int .i64 y.n] 71)=W2 at*
 refine wp_region_still_tail 10 mixed (by kernel_rfl) ?_
 simp only[List.take_succ_cons,List.take_zero,List.drop_succ_cons,List.drop_zero]
 change wpStill _ _ (World.drew W2) _ _ _
 generalize hW3:World.drew W2=W3 at*
 repeat still_step
 still_call (D5 _)
 repeat still_step
 still_call (AO _)
 refine wpStill_nil ?_
 clear f0 f1 g0 g1 D5 AO
 unfold Il at hr
 generalize qP x.f y.f=r1 at*
 generalize qP x.a y.a=r2 at*
 have HG:Hid (∃q FA,W3=grow (W.drewN q) FA):=hg
 have HR:Hid (r=if r1=0 then r2 else r1):=hr
 clear hg hr mixed
 refine wpList_step (fun K hK=>?_)
 go_simp
 refine hK _ _ ?_
 clear hK K
 have hc:∀j,(W3.alloc (Obj.cells #[Value.int .i64 r1,Value.int .i64 r2] 3)).cell? ⟨W3.heap.size,j,none⟩=(#[Value.int .i64 r1,Value.int .i64 r2]:Array Value)[j]?:=fun j=>Wf W3 _ _ j
 have hgw:Hid (∃q FA,W3.alloc (Obj.cells #[Value.int .i64 r1,Value.int .i64 r2] 3)=grow (W.drewN q) FA):=by
  obtain⟨q,os,h⟩:=HG.out
  exact⟨q,_,by rw[h,alloc_eq_grow,grow_grow]⟩
 generalize W3.alloc (Obj.cells #[Value.int .i64 r1,Value.int .i64 r2] 3)=W4 at*
 generalize W3.heap.size=sz at*
 have c0:=hc 0
 have c1:=hc 1
 clear hc HG hW3
 refine wpList_step (fun K hK=>?_)
 go_simp
 refine(Bl r1 r2 sz W4 c0 c1).mono ?_
 rintro e w' ⟨rfl,rfl⟩
 refine hK _ _ ?_
 clear hK K
 refine wpList_step (fun K hK=>?_)
 go_simp
 refine hK _ _ ?_
 clear hK K c0 c1
 rw[show(if r1=0 then r2 else r1)=r from HR.out.symm]
 clear HR
 go_wp2
 go_ret
 exact⟨rfl,hgw.out⟩
end
section
open Go.TM
theorem FB{s P:List Lt}{i:Nat}{x:Lt}(hx:s[i]?=some x):Fu s P (i+1)=(mQ x P).foldl aT (Fu s P i):=by
 unfold Fu;rw[ads,hx,List.flatMap_append,adI];simp
theorem yK(x:Lt)(P:List Lt):th x P P.length=mQ x P:=by unfold th mQ;rw[ady]
theorem yL{s P:List Lt}(hs:∀x∈s,aJ x=true)(hP:∀y∈P,aJ y=true):∀i,(∀x∈Fu s P i,aJ x=true)/\(Fu s P i).length<=i*(P.length+1)
 |0=>⟨fun _ h=>(by cases h),by simp[Fu]⟩
 |i+1=>by
  obtain⟨h1,h2⟩:=yL hs hP i
  have em:(i+1)*(P.length+1)=i*(P.length+1)+(P.length+1):=Nat.succ_mul ..
  cases hx:s[i]? with
  |none=>
   have:Fu s P (i+1)=Fu s P i:=by unfold Fu;rw[ads,hx];simp
   rw[this];exact⟨h1,by omega⟩
  |some x=>
   have hp:=hs x (adl hx)
   obtain⟨r1,r2,r3⟩:=CJ hp hP P.length
   rw[yK]at r1 r3
   rw[FB hx]
   have:=tl _ _ r1 h1
   exact⟨this.1,by omega⟩
theorem aaR(l:List Lt):(((l.map aD).length:Int)==0)=decide (l=[]):=by
 cases l with
 |nil=>rfl
 |cons x l=>
  have h:(((((x::l).map aD).length:Nat):Int)==0)=false:=by
   rw[beq_eq_false_iff_ne,adi,List.length_cons];omega
  rw[h,adG (by simp)]
variable [aW]
def Im(s P:List Lt):List Lt:=bif bE s&&bE P then mu s P else[]
theorem tq(s P:List Lt)(hs:s.length<=5000)(hP:P.length<=5000)(ck:s.length*(P.length+1)<=90000):ai Tryz.prog 199 [aR s,aR P] [aR (Im s P)]:=by
 refine pO Tryz.func199 rfl (by kernel_rfl) rfl ?_
 refine .inl ⟨_,fun _=>(gD s (by omega)).ok,?_⟩
 refine .inl ⟨_,fun _=>(gD P (by omega)).ok,?_⟩
 repeat refine gG ?_
 refine adh ?_ ?_
 ·intro h
  have:Im s P=[]:=by
   unfold Im
   have h:(bif !bE s then true else !bE P)=true:=h
   cases hv:bE s<;>cases eB:bE P<;>rw[hv,eB]at h<;>first|rfl|cases h
  rw[this]
  exact⟨DV.aY 3,tv⟩
 intro h
 have hv:bE s=true/\bE P=true:=by
  have h:(bif !bE s then true else !bE P)=false:=h
  cases hv:bE s<;>cases eB:bE P<;>rw[hv,eB]at h<;>first|exact⟨rfl,rfl⟩|cases h
 have ns:=(fI hv.1).2
 have hPp:=(fI hv.2).2
 have he:Im s P=Fu s P s.length:=by unfold Im Fu mu;rw[hv.1,hv.2,ady];rfl
 rw[he]
 clear he h hv
 refine⟨Nat,fun i=>⟨0,[(0,.dv (aR s)),(1,.dv (aR P)),(7,.dv (aR (Fu s P i))),(8,.dv (I i))],[]⟩,fun i=>i<=s.length,fun i=>s.length-i,0,fun _=>rfl,⟨⟨rf,rf,DV.aY 3,rf,tv⟩,tv,rfl,rfl⟩,adx _,?_⟩
 rintro i hi
 refine adh ?_ ?_
 ·intro h
  have aB:i<s.length:=by have:=adz h;rw[adi]at this;omega
  obtain⟨x,hx⟩:∃x,s[i]?=some x:=⟨_,abK aB⟩
  have ND:=ns x (adl hx)
  have fM:=FB (P:=P) hx
  obtain⟨w1,w2⟩:=yL ns hPp i
  have hR:=CJ ND hPp
  have hmul:i*(P.length+1)<=s.length*(P.length+1):=adN _ (by omega)
  generalize hW:Fu s P i=W at*
  refine⟨aD x,fun _=>⟨by omega,by rw[adk];simp[hx]⟩,?_⟩
  refine .inl ⟨[aD x],rfl,⟨rf,rf,rf,tv⟩,(by simp;rfl),?_⟩
  refine⟨Nat,fun k=>⟨0,[(0,.dv (aR s)),(1,.dv (aR P)),(7,.dv (aR W)),(8,.dv (I i)),(9,.dv (aR (th x P k))),(10,.dv (I k))],[]⟩,fun k=>k<=P.length,fun k=>P.length-k,0,fun _=>rfl,jn (by simp only[hW];rfl) rfl rfl rfl,adx _,?_⟩
  rintro k hk
  refine adh ?_ ?_
  ·intro h
   have NI:k<P.length:=by have:=adz h;rw[adi]at this;omega
   obtain⟨y,hy⟩:∃y,P[k]?=some y:=⟨_,abK NI⟩
   obtain⟨r1,r2,r3⟩:=hR k
   have e:=Bj (x:=x) hy
   refine⟨aD y,fun _=>⟨by omega,by rw[adk];simp[hy]⟩,?_⟩
   refine .inl ⟨_,fun _=>(L6 _ y r1 (hPp y (adl hy)) (by omega)).ok,?_⟩
   exact⟨fun _=>by omega,k+1,jn (by simp only[e];rfl) rfl rfl rfl,by omega,mlt NI⟩
  intro h
  have he:k=P.length:=by have:=adA h;rw[adi]at this;omega
  subst he
  obtain⟨r1,r2,r3⟩:=hR P.length
  simp only[yK]
  rw[yK]at r1 r3
  generalize mQ x P=R at*
  have hK:=fun q=>tl (R.take q) W (fun z hz=>r1 z (List.mem_of_mem_take hz)) w1
  refine⟨Nat,fun q=>⟨0,[(0,.dv (aR s)),(1,.dv (aR P)),(7,.dv (aR ((R.take q).foldl aT W))),(8,.dv (I i)),(9,.dv (aR R)),(11,.dv (I q))],[]⟩,fun q=>q<=R.length,fun q=>R.length-q,0,fun _=>rfl,jn rfl rfl rfl rfl,adx _,?_⟩
  rintro q hq
  refine adh ?_ ?_
  ·intro h
   have hqt:q<R.length:=by have:=adz h;rw[adi]at this;omega
   obtain⟨y,hy⟩:∃y,R[q]?=some y:=⟨_,abK hqt⟩
   have hyp:=ak.1 (r1 y (adl hy))
   obtain⟨k1,k2⟩:=hK q
   rw[adD]at k2
   have e:(R.take (q+1)).foldl aT W=aT ((R.take q).foldl aT W) y:=by rw[ads,hy,adI];rfl
   refine⟨aD y,fun _=>⟨by omega,by rw[adk];simp[hy]⟩,?_⟩
   refine .inl ⟨_,fun _=>(pJ _ y (by omega) (fun z hz=>by have:=ak.1 (k1 z hz);omega) (by omega)).ok,?_⟩
   exact⟨fun _=>by omega,q+1,jn (by simp only[e];rfl) rfl rfl rfl,by omega,mlt hqt⟩
  ·intro h
   have he:q=R.length:=by have:=adA h;rw[adi]at this;omega
   subst he
   refine⟨fun _=>by omega,i+1,jn (by simp only[fM,ady];rfl) rfl rfl rfl,by omega,mlt aB⟩
 ·intro h
  have he:i=s.length:=by have:=adA h;rw[adi]at this;omega
  subst he
  exact⟨rf,tv⟩
def kF(l:List Lt):List Lt:=bif bE l then cW l else[]
def uP(a b:List Lt):List Lt:=Im (kF a) b
def rY(a b:List Lt):Bool:=bE a&&bE b&&decide (uP a b=[])
theorem pN(l:List Lt):(kF l).length<=l.length/\∀x∈kF l,aJ x=true:=by
 unfold kF
 cases hv:bE l with
 |true=>have:=qw (fI hv).2;exact⟨this.2.1,this.1⟩
 |false=>exact⟨adx _,fun _ h=>(by cases h)⟩
theorem rZ(a b:List Lt)(ha:a.length<=5000)(hb:b.length<=5000)(ck:a.length*(b.length+1)<=90000):ai Tryz.prog 225 [aR a,aR b] [aR (uP a b)]:=by
 refine pO Tryz.func225 rfl (by kernel_rfl) rfl ?_
 have hl:=(pN a).1
 have hm:(kF a).length*(b.length+1)<=a.length*(b.length+1):=adN _ hl
 refine .inl ⟨_,fun _=>(Bc a (by omega)).ok,?_⟩
 refine .inl ⟨_,fun _=>(tq (kF a) b (by omega) hb (by omega)).ok,?_⟩
 exact⟨rf,tv⟩
theorem vJ(a b:List Lt)(ha:a.length<=5000)(hb:b.length<=5000)(ck:a.length*(b.length+1)<=90000):ai Tryz.prog 198 [aR a,aR b] [B (rY a b)]:=by
 refine pO Tryz.func198 rfl (by kernel_rfl) rfl ?_
 refine .inl ⟨_,fun _=>(gD a (by omega)).ok,?_⟩
 refine .inl ⟨_,fun _=>(gD b (by omega)).ok,?_⟩
 repeat refine gG ?_
 refine .inl ⟨_,fun _=>(rZ a b ha hb ck).ok,?_⟩
 repeat refine gG ?_
 refine⟨DV.Le.of_eq ?_,tv⟩
 show DV.bool (bif bif bE a then bE b else false then(((uP a b).map aD).length:Int)==0 else false)=B (rY a b)
 unfold rY
 rw[aaR]
 cases bE a<;>cases bE b<;>rfl
theorem Uq{s P:List Lt}(hs:∀x∈s,aJ x=true):(Im s P).length<=s.length*(P.length+1):=by
 unfold Im
 cases hv:bE s&&bE P with
 |true=>
  rw[adT]at hv
  have:=(yL hs (fI hv.2).2 s.length).2
  unfold Fu at this
  rw[ady]at this
  exact this
 |false=>exact adx _
def CO(a b:List Lt):List Lt:=bif bE b then uP a (uP a b)else[]
theorem Bm(a b:List Lt)(ha:a.length<=5000)(hb:b.length<=5000)(ck:a.length*(b.length+1)<=5000)(ac5:a.length*(a.length*(b.length+1)+1)<=90000):ai Tryz.prog 228 [aR a,aR b] [aR (CO a b)]:=by
 refine pO Tryz.func228 rfl (by kernel_rfl) rfl ?_
 refine .inl ⟨_,fun _=>(gD b (by omega)).ok,?_⟩
 unfold CO
 refine adh ?_ ?_
 ·intro h
  have h:bE b=false:=by simpa using h
  rw[h]
  exact⟨DV.aY 3,tv⟩
 ·intro h
  have h:bE b=true:=by simpa using h
  rw[h]
  have h1:=pN a
  have h2:=Uq (P:=b) h1.2
  have h3:(kF a).length*(b.length+1)<=a.length*(b.length+1):=adN _ h1.1
  have h4:a.length*((uP a b).length+1)<=a.length*(a.length*(b.length+1)+1):=Nat.mul_le_mul_left _ (by unfold uP;omega)
  refine .inl ⟨_,fun _=>(rZ a b ha hb (by omega)).ok,?_⟩
  refine .inl ⟨_,fun _=>(rZ a (uP a b) ha (by unfold uP;omega) (by omega)).ok,?_⟩
  exact⟨rf,tv⟩
end
section
open Go.TM
structure eS where
 fr:Int
 to:Int
 it:Int
 n:Int
 ps:List Lt
structure dI where
 id:Int
 kind:Int
 ko:Int
 tick:Int
 aX:Int
 times:Int
 mv:List eS
structure j4 where
 id:Int
 step:Int
 kind:Int
 tick:Int
 ko:Int
 fr:Int
 to:Int
 it:Int
 n:Int
 ps:List Lt
 md:List Int
abbrev Ky:=Int×Int
abbrev SM:=List (Ky×List Lt)
def ay(m:eS):DV:=.agg [I m.fr,I m.to,I m.it,I m.n,aR m.ps]
def aZ(s:dI):DV:=.agg [I s.id,I s.kind,I s.ko,I s.tick,I s.aX,I s.times,.sl 5 (s.mv.map ay)]
def bB(f:j4):DV:=.agg [I f.id,I f.step,I f.kind,I f.tick,I f.ko,I f.fr,I f.to,I f.it,I f.n,aR f.ps,Ints f.md]
def kG(p:Ky×List Lt):DV:=.agg [I p.1.1,I p.1.2,aR p.2]
structure RL where
 sh:Int
 st:SM
 fl:List j4
 sp:List dI
structure XU where
 nm:ByteArray
 sp:Bool
 lv:Int
 tm:Int
 ch:Int
 of:Int
 tk:List Ky
 gv:List Ky
 bk:List Ky
def ja(p:Ky):DV:=.agg [I p.1,I p.2]
def kl(r:XU):DV:=.agg [.str r.nm,B r.sp,I r.lv,I r.tm,I r.ch,I r.of,.sl 2 (r.tk.map ja),.sl 2 (r.gv.map ja),.sl 2 (r.bk.map ja)]
def gh:List XU:=[⟨⟨⟨[100,105,103]⟩⟩,true,0,0,1,1,[],[(1,4),(2,3)],[]⟩,⟨⟨⟨[115,109,101,108,116]⟩⟩,false,2,5,2,3,[(1,2),(2,1)],[(3,1)],[(1,1)]⟩,
 ⟨⟨⟨[102,111,114,103,101]⟩⟩,false,3,10,1,1,[(3,3)],[(4,1)],[]⟩,⟨⟨⟨[115,99,114,97,112]⟩⟩,false,0,1,1,1,[(4,1)],[(3,3)],[]⟩,⟨⟨⟨[115,101,108,108]⟩⟩,false,0,1,1,1,[(3,1)],[(0,7)],[]⟩]
abbrev oF:List DV:=[.sl 7 (CC (I 2) (I 20)),.sl 9 (gh.map kl),iE,fc]
def rlC(R:RL):List AV:=.dv (I R.sh)::fp oF++[.own 1 0 0 [],.own 2 0 0 [],.own 3 0 0 []]
def gn(R:RL):ae:=[(0,.cells (rlC R)),(1,.tree 0 0 (.aI 3 (R.st.map kG))),(2,.tree 0 0 (.aI 11 (R.fl.map bB))),(3,.tree 0 0 (.aI 7 (R.sp.map aZ)))]
def qY:SM->Ky->Nat
 |[],_=>0
 |p::r,k=>if p.1=k then 0 else qY r k+1
theorem P3:∀(m:SM) (k:Ky),qY m k<=m.length
 |[],_=>adM _
 |p::r,k=>by unfold qY;split;exact adx _;have:=P3 r k;simp only[List.length_cons];omega
theorem Io:∀{m:SM} {k:Ky} {j:Nat} {p:Ky×List Lt},m[j]?=some p->j<=qY m k->(p.1=k->qY m k=j)/\(p.1≠k->j+1<=qY m k)
 |q::r,k,0,p,h,hj=>by
  simp at h;subst h
  unfold qY
  exact⟨fun e=>if_pos e,fun e=>by rw[if_neg e];omega⟩
 |q::r,k,j+1,p,h,hj=>by
  unfold qY at hj⊢
  split at hj
  ·omega
  ·rename_i hq
   rw[if_neg hq]
   have:=Io (m:=r) (k:=k) (j:=j) (p:=p) (by simpa using h) (by omega)
   exact⟨fun e=>by rw[this.1 e],fun e=>by have:=this.2 e;omega⟩
theorem CP:∀(m:SM) (k:Ky),aV m k=(m[qY m k]?).map (·.2)
 |[],k=>rfl
 |p::r,k=>by
  obtain⟨q,l⟩:=p
  unfold qY aV
  split
  ·simp
  ·rw[CP r k];simp
theorem CQ:∀(m:SM) (k:Ky) (l:List Lt),aN m k l=if qY m k<m.length then m.set (qY m k) (k,l)else m++[(k,l)]
 |[],k,l=>by simp[aN,qY]
 |p::r,k,l=>by
  obtain⟨q,v⟩:=p
  unfold qY aN
  split
  ·simp
  ·rw[CQ r k l]
   simp only[List.length_cons]
   by_cases h:qY r k<r.length
   ·rw[if_pos h,if_pos (by omega)];rfl
   ·rw[if_neg h,if_neg (by omega)];rfl
theorem Ur{m:SM}{k:Ky}(h:qY m k<m.length):∃l,m[qY m k]?=some (k,l):=by
 have hx:=abK h
 have:=(Io hx (adM _))
 by_cases e:m[qY m k].1=k
 ·exact⟨m[qY m k].2,by rw[hx];exact congrArg some (Prod.ext e rfl)⟩
 ·have:=this.2 e;omega
def bY(m:SM)(k:Ky):List Lt:=(aV m k).getD []
variable [aW]
theorem find_spec(R:RL)(a i:Int)(hn:R.st.length<=100000):aw Tryz.prog 196 [.ptr 0 0,.dv (I a),.dv (I i)] 4 (gn R) 0 [.dv (I (if qY R.st (a,i)<R.st.length then(qY R.st (a,i):Int)else -1))] (gn R):=by
 refine cO Tryz.func196 rfl (by kernel_rfl) ?_
 refine⟨Nat,fun j=>⟨4,[(0,.ptr 0 0),(1,.dv (I a)),(2,.dv (I i)),(7,.dv (I j))],gn R⟩,fun j=>j<=qY R.st (a,i),fun j=>R.st.length-j,0,fun _=>rfl,jn rfl rfl rfl rfl,adx _,?_⟩
 rintro j hj
 have ou:=P3 R.st (a,i)
 refine adh ?_ ?_
 ·intro h
  have aB:j<R.st.length:=by have:=adz h;rw[adi]at this;omega
  obtain⟨p,hp⟩:∃p,R.st[j]?=some p:=⟨_,abK aB⟩
  have hf:=Io (k:=(a,i)) hp hj
  obtain⟨⟨pa,pi⟩,pl⟩:=p
  have ip:(R.st.map kG)[(j:Int).toNat]?=some (kG ((pa,pi),pl)):=by rw[adk];simp[hp]
  repeat first|refine g1 ?_|refine g3 ?_|refine⟨fun _=>⟨by omega,by rw[adi];omega⟩,?_⟩|refine⟨kG ((pa,pi),pl),fun _=>ip,?_⟩
  refine adh ?_ ?_
  ·intro h
   have e:(pa,pi)=(a,i):=by
    have h:=bZ h
    exact Prod.ext (beq_iff_eq.1 h.1) (beq_iff_eq.1 h.2)
   rw[hf.1 e,if_pos aB]
   exact ext (by kernel_rfl) rfl rfl
  ·intro h
   have e:(pa,pi)≠(a,i):=fun e=>by
    injection e with e1 e2
    have h:(bif pa==a then pi==i else false)=false:=h
    subst e1;subst e2;simp at h
   exact⟨fun _=>by omega,j+1,jn rfl rfl rfl rfl,hf.2 e,mlt aB⟩
 ·intro h
  have BS:R.st.length<=j:=by have:=adA h;rw[adi]at this;omega
  rw[if_neg (by omega)]
  exact ext (by kernel_rfl) rfl rfl
theorem P4{m:SM}{k:Ky}(h:qY m k<m.length):m[qY m k]?=some (k,bY m k):=by
 obtain⟨l,hl⟩:=Ur h
 unfold bY
 rw[CP,hl];rfl
theorem XW{m:SM}{k:Ky}(h:¬qY m k<m.length):bY m k=[]:=by
 unfold bY
 rw[CP,List.getElem?_eq_none (by omega)];rfl
theorem j5(R:RL)(a i:Int)(hn:R.st.length<=100000):aw Tryz.prog 121 [.ptr 0 0,.dv (I a),.dv (I i)] 4 (gn R) 0 [.dv (aR (bY R.st (a,i)))] (gn R):=by
 refine cO Tryz.func121 rfl (by kernel_rfl) ?_
 refine .inr (cl [0,1,2,3] (find_spec R a i hn) (by kernel_rfl) rfl rfl ?_)
 refine adh ?_ ?_
 ·intro h
  have h:=adz h
  have hc:¬qY R.st (a,i)<R.st.length:=fun hc=>by rw[if_pos hc]at h;omega
  rw[XW hc]
  exact⟨_,_,⟨rfl,rfl⟩,by kernel_rfl,⟨DV.aY 3,tv⟩,bl (k:=gn R) rfl⟩
 ·intro h
  have h:=adA h
  have hc:qY R.st (a,i)<R.st.length:=Decidable.byContradiction fun hc=>by rw[if_neg hc]at h;omega
  have hx:=P4 hc
  simp only[if_pos hc]
  refine⟨fun _=>⟨by omega,by rw[adi];omega⟩,kG ((a,i),bY R.st (a,i)),fun _=>by rw[adk];simp[hx],?_⟩
  exact ext (by kernel_rfl) rfl rfl
end
section
open Go.TM
def aaS(a b c:Nat)(R:RL):List AV:=.dv (I R.sh)::fp oF++[.own 1 a 0 [],.own 2 b 0 [],.own 3 c 0 []]
def j6(a b c:Nat)(R:RL):ae:=[(0,.cells (aaS a b c R)),(1,.tree a 0 (.aI 3 (R.st.map kG))),(2,.tree b 0 (.aI 11 (R.fl.map bB))),(3,.tree c 0 (.aI 7 (R.sp.map aZ)))]
def uQ(R:RL)(k:Ky)(l:List Lt):RL:={ R with st:=aN R.st k l }
variable [aW]
theorem bK3{n:Nat}(h:n<=1000000):n*(nth jk (nth jk 167).elem).bytes<=140737488355328:=by
 rw[show(nth jk (nth jk 167).elem).bytes=40 by kernel_rfl];omega
theorem Us(R:RL)(a i:Int)(l:List Lt)(hn:R.st.length<=100000)(hc:¬qY R.st (a,i)<R.st.length):aw Tryz.prog 130 [.ptr 0 0,.dv (I a),.dv (I i),.dv (aR l)] 4 (gn R) 0 [] (j6 1 0 0 (uQ R (a,i) l)):=by
 have e:aN R.st (a,i) l=R.st++[((a,i),l)]:=by rw[CQ,if_neg hc]
 have hf:=find_spec R a i hn
 rw[if_neg hc]at hf
 refine cO Tryz.func130 rfl (by kernel_rfl) ?_
 refine .inr (cl [0,1,2,3] hf (by kernel_rfl) rfl rfl ?_)
 refine adh (fun _=>?_) fun h=>by simp at h
 refine .inl ⟨[kG ((a,i),l)],rfl,⟨rf,rf,rf,tv⟩,(by simp;rfl),?_⟩
 refine .inr ⟨[kG ((a,i),l)],bW.refl _,bK3 (by simp;omega),by simp;omega,?_⟩
 refine ext (by kernel_rfl) rfl ?_
 simp only[uQ,e,j6,adB]
 rfl
theorem P5(R:RL)(a i:Int)(l:List Lt)(hn:R.st.length<=100000)(hc:qY R.st (a,i)<R.st.length):aw Tryz.prog 130 [.ptr 0 0,.dv (I a),.dv (I i),.dv (aR l)] 4 (gn R) 0 [] (j6 1 0 0 (uQ R (a,i) l)):=by
 have e:aN R.st (a,i) l=R.st.set (qY R.st (a,i)) ((a,i),l):=by rw[CQ,if_pos hc]
 have hf:=find_spec R a i hn
 rw[if_pos hc]at hf
 have hx:=P4 hc
 generalize qY R.st (a,i)=q at*
 refine rT (i:=1) (e0:=0) (K1:=[(0,.cells (.dv (I R.sh)::fp oF++[.own 1 0 0 [],.own 2 0 0 [],.own 3 0 0 []])),(1,.tree 0 0 (.aI 3 ((aN R.st (a,i) l).map kG))),(2,.tree 0 0 (.aI 11 (R.fl.map bB))),(3,.tree 0 0 (.aI 7 (R.sp.map aZ)))]) ?_ (by omega) ⟨_,rfl,rfl,fun j hj=>?_⟩
 ·refine cO Tryz.func130 rfl (by kernel_rfl) ?_
  refine .inr (cl [0,1,2,3] hf (by kernel_rfl) rfl rfl ?_)
  refine adh (fun h=>by have:=adz h;omega) fun _=>?_
  refine⟨fun _=>⟨by omega,by rw[adi];omega⟩,[aR l],⟨rf,tv⟩,kG ((a,i),bY R.st (a,i)),by rw[adk];simp[hx],?_⟩
  refine ext (by kernel_rfl) rfl ?_
  simp only[e,List.map_set]
  rfl
 ·match j,hj with
  |0,_=>exact .cells (.same _ (.same _ (.same _ (.same _ (.same _ (.qW (.same _ (.same _ .nil))))))))
  |2,_=>exact .refl _
  |3,_=>exact .refl _
  |j+4,_=>exact .refl _
theorem nQ(R:RL)(a i:Int)(l:List Lt)(hn:R.st.length<=100000):aw Tryz.prog 130 [.ptr 0 0,.dv (I a),.dv (I i),.dv (aR l)] 4 (gn R) 0 [] (j6 1 0 0 (uQ R (a,i) l)):=by
 by_cases hc:qY R.st (a,i)<R.st.length
 ·exact P5 R a i l hn hc
 ·exact Us R a i l hn hc
end
section
open Go.TM
def CR(it:Int)(p:Ky×List Lt):Int:=if p.1.2=it then cT p.2 else 0
def b8(m:SM)(it:Int):Int:=(m.map (CR it)).sum
def fw(l:List dI):Int:=match l.getLast? with
 |some s=>s.tick
 |none=>0
theorem P6(l:List Lt):0<=cT l/\cT l<=4503599627370496:=by
 unfold cT
 cases hv:bE l with
 |false=>exact⟨Int.le_refl _,by show(0:Int)<=_;omega⟩
 |true=>
  obtain⟨h1,h2⟩:=fI hv
  have:=CE fun x hx=>mU (h2 x hx)
  show 0<=cM l/\cM l<=_
  omega
theorem XX(it:Int)(p:Ky×List Lt):0<=CR it p/\CR it p<=4503599627370496:=by
 have:=P6 p.2
 unfold CR;split<;>omega
theorem CS(it:Int):∀m:SM,0<=b8 m it/\b8 m it<=4503599627370496*m.length
 |[]=>by simp[b8]
 |p::m=>by
  have h1:=XX it p
  have h2:=CS it m
  simp only[b8,List.map_cons,List.sum_cons,List.length_cons]at*
  omega
theorem L9{m:SM}{it:Int}{j:Nat}{p:Ky×List Lt}(h:m[j]?=some p):b8 (m.take (j+1)) it=b8 (m.take j) it+CR it p:=by
 unfold b8;rw[ads,h,adB,List.sum_append];simp
variable [aW]
theorem FC(R:RL)(it:Int)(hn:R.st.length<=1000)(hl:∀p∈R.st,p.2.length<=1000000):aw Tryz.prog 128 [.ptr 0 0,.dv (I it)] 4 (gn R) 0 [.dv (I (b8 R.st it))] (gn R):=by
 refine cO Tryz.func128 rfl (by kernel_rfl) ?_
 refine⟨Nat,fun j=>⟨4,[(0,.ptr 0 0),(1,.dv (I it)),(5,.dv (I (b8 (R.st.take j) it))),(6,.dv (I j))],gn R⟩,fun j=>j<=R.st.length,fun j=>R.st.length-j,0,fun _=>rfl,jn rfl rfl rfl rfl,adx _,?_⟩
 rintro j hj
 refine adh ?_ ?_
 ·intro h
  have aB:j<R.st.length:=by have:=adz h;rw[adi]at this;omega
  obtain⟨p,hp⟩:∃p,R.st[j]?=some p:=⟨_,abK aB⟩
  have ip:(R.st.map kG)[(j:Int).toNat]?=some (kG p):=by rw[adk];simp[hp]
  have fM:=L9 (it:=it) hp
  have b1:=CS it (R.st.take j)
  have b2:=P6 p.2
  have b3:(R.st.take j).length<=1000:=by rw[adD];omega
  refine⟨fun _=>⟨by omega,by rw[adi];omega⟩,kG p,fun _=>ip,?_⟩
  refine adh ?_ ?_
  ·intro h
   have e:CR it p=cT p.2:=if_pos (beq_iff_eq.1 h)
   rw[e]at fM
   refine⟨fun _=>⟨by omega,by rw[adi];omega⟩,kG p,fun _=>ip,?_⟩
   refine .inl ⟨_,fun _=>(qu p.2 (hl p (adl hp))).ok,?_⟩
   exact⟨fun _=>by omega,fun _=>by omega,j+1,jn (by simp only[fM];rfl) rfl rfl rfl,by omega,mlt aB⟩
  ·intro h
   have e:CR it p=0:=if_neg (beq_eq_false_iff_ne.1 h)
   rw[e,Int.add_zero]at fM
   exact⟨fun _=>by omega,j+1,jn (by simp only[fM];rfl) rfl rfl rfl,by omega,mlt aB⟩
 ·intro h
  have he:j=R.st.length:=by have:=adA h;rw[adi]at this;omega
  subst he
  simp only[ady]
  exact ext (by kernel_rfl) rfl rfl
theorem Ma(R:RL)(hn:R.sp.length<=1000000):aw Tryz.prog 122 [.ptr 0 0] 4 (gn R) 0 [.dv (I (fw R.sp))] (gn R):=by
 refine cO Tryz.func122 rfl (by kernel_rfl) ?_
 rcases List.eq_nil_or_concat R.sp with hR|⟨r,s,hR⟩
 ·have e1:(R.sp.map aZ).length=0:=by rw[hR];rfl
  have e2:fw R.sp=0:=by rw[hR];rfl
  rw[e2]
  exact adh (fun _=>ext (by kernel_rfl) rfl rfl) fun h=>by have:=beq_eq_false_iff_ne.1 h;rw[e1]at this;omega
 ·rw[List.concat_eq_append]at hR
  have e1:(R.sp.map aZ).length=r.length+1:=by rw[hR];simp
  have hl:r.length+1<=1000000:=by rw[hR]at hn;simpa using hn
  have e2:fw R.sp=s.tick:=by rw[hR];simp[fw]
  refine adh (fun h=>by have:=beq_iff_eq.1 h;rw[e1]at this;omega) fun _=>?_
  refine⟨fun _=>by omega,fun _=>by omega,aZ s,fun _=>by rw[e1,show(((r.length+1:Nat):Int)-1).toNat=r.length by omega,hR];simp,?_⟩
  rw[e2]
  exact⟨by kernel_rfl,ext (by kernel_rfl) rfl rfl⟩
end
section
open Go.TM
theorem Bn{α:Type}{e:α->DV}(h:∀x,(e x).aQ)(l:List α):∀x,x∈l.map e->x.aQ:=fun x hx=>by
 obtain⟨y,_,rfl⟩:=adK.1 hx
 exact h y
theorem aaT(p:Ky×List Lt):(kG p).aQ:=fun d hd=>by
 simp only[kG,DV.cells,adp,List.mem_nil_iff,or_false]at hd
 rcases hd with rfl|rfl|rfl<;>rfl
theorem Wg(p:j4):(bB p).aQ:=fun d hd=>by
 simp only[bB,DV.cells,adp,List.mem_nil_iff,or_false]at hd
 rcases hd with rfl|rfl|rfl|rfl|rfl|rfl|rfl|rfl|rfl|rfl|rfl<;>rfl
theorem aaU(p:dI):(aZ p).aQ:=fun d hd=>by
 simp only[aZ,DV.cells,adp,List.mem_nil_iff,or_false]at hd
 rcases hd with rfl|rfl|rfl|rfl|rfl|rfl|rfl<;>rfl
variable [aW]
theorem bF{n:Nat}(h:n<=1000000):n*(nth jk (nth jk 38).elem).bytes<=140737488355328:=by
 rw[show(nth jk (nth jk 38).elem).bytes=120 by kernel_rfl];omega
theorem bS{n:Nat}(h:n<=1000000):n*(nth jk (nth jk 25).elem).bytes<=140737488355328:=by
 rw[show(nth jk (nth jk 25).elem).bytes=72 by kernel_rfl];omega
def ace(R:RL):ae:=[(4,.cells (.dv (I R.sh)::fp oF++[.own 5 0 0 [],.own 6 0 0 [],.own 7 0 0 []])),(5,.tree 0 0 (.aI 3 (R.st.map kG))),(6,.tree 0 0 (.aI 11 (R.fl.map bB))),(7,.tree 0 0 (.aI 7 (R.sp.map aZ)))]
theorem Ip(R:RL)(h1:R.st.length<=1000000)(h2:R.fl.length<=1000000)(h3:R.sp.length<=1000000):aw Tryz.prog 89 [.ptr 0 0] 4 (gn R) 4 [.ptr 4 0] (gn R++ace R):=by
 refine cO Tryz.func89 rfl (by kernel_rfl) ?_
 refine⟨by kernel_rfl,?_⟩
 refine .inr (.inl ⟨Bn aaT R.st,R.st.map kG,bW.refl _,bK3 (by rw[adi];omega),by rw[adi];omega,?_⟩)
 refine⟨by kernel_rfl,?_⟩
 refine .inr (.inl ⟨Bn Wg R.fl,R.fl.map bB,bW.refl _,bF (by rw[adi];omega),by rw[adi];omega,?_⟩)
 refine⟨by kernel_rfl,?_⟩
 refine .inr (.inl ⟨Bn aaU R.sp,R.sp.map aZ,bW.refl _,bS (by rw[adi];omega),by rw[adi];omega,?_⟩)
 exact⟨by kernel_rfl,ext (by kernel_rfl) rfl rfl⟩
theorem FD(k:Int):ai Tryz.prog 123 [I k] [B (decide (k=5\/k=7\/k=9))]:=by
 refine pO Tryz.func123 rfl (by kernel_rfl) rfl ?_
 repeat refine gG ?_
 refine⟨DV.Le.of_eq ?_,tv⟩
 congr 1
 rw[adO];simp[or_assoc]
def oG(k:Int)(m:eS):Bool:=
 if k=0\/k=5 then decide (m.fr=0)else if k=1\/k=6 then decide (m.to=0)else if k=7 then decide (0<m.fr)else if k=9 then decide (0<m.to)else decide (0<m.fr/\0<m.to)
theorem Mb(k:Int)(m:eS):ai Tryz.prog 126 [I k,ay m] [B (oG k m)]:=by
 refine pO Tryz.func126 rfl (by kernel_rfl) rfl ?_
 repeat' first|exact trivial|assumption|refine g1 ?_|refine g3 ?_|refine adh ?_ ?_|refine DV.Le.of_eq ?_|intro h
 all_goals(congr 1;rw[adO];simp_all [oG])
end
section
open Go.TM
def c9(n m:Int):Int:=if n.tmod m<0 then n.tmod m+m else n.tmod m
theorem qx(n m:Int)(hm:1<=m):0<=c9 n m/\c9 n m<m:=by
 unfold c9
 have h1:=Int.tmod_lt_of_pos n (show 0<m by omega)
 have h2:=Int.lt_tmod_of_pos n (show 0<m by omega)
 split<;>omega
variable [aW]
theorem bQ(n m:Int)(hm:1<=m)(T8:m<=4611686018427387904):ai Tryz.prog 16 [I n,I m] [I (c9 n m)]:=by
 refine pO Tryz.func16 rfl (by kernel_rfl) rfl ?_
 have h1:=Int.tmod_lt_of_pos n (show 0<m by omega)
 have h2:=Int.lt_tmod_of_pos n (show 0<m by omega)
 refine⟨fun _=>by omega,fun h=>?_,fun h=>?_⟩
 ·have h':n.tmod m<0:=adz h
  exact⟨fun _=>by omega,aM (by rw[c9,if_pos h']),tv⟩
 ·have h':¬n.tmod m<0:=adA h
  exact⟨aM (by rw[c9,if_neg h']),tv⟩
theorem Bo(l:List Lt)(hl:l.length<=1000000):ai Tryz.prog 54 [aR l,aR l] [B true]:=by
 refine pO Tryz.func54 rfl (by kernel_rfl) rfl ?_
 have lp:(l.map aD).length=l.length:=adi ..
 refine adh (fun h=>by simp at h) fun _=>?_
 refine⟨Nat,fun i=>⟨0,[(0,.dv (aR l)),(1,.dv (aR l)),(5,.dv (I i))],[]⟩,fun i=>i<=l.length,fun i=>l.length-i,0,fun _=>rfl,jn rfl rfl rfl rfl,adx _,?_⟩
 rintro i hi
 refine adh ?_ ?_
 ·intro h
  have aB:i<l.length:=by have:=adz h;omega
  obtain⟨x,hx⟩:∃x,l[i]?=some x:=⟨_,abK aB⟩
  have ix:(l.map aD)[(i:Int).toNat]?=some (aD x):=by rw[adk];simp[hx]
  refine⟨aD x,fun _=>⟨by omega,ix⟩,aD x,fun _=>⟨by omega,ix⟩,?_⟩
  refine⟨by kernel_rfl,adh (fun h=>by simp at h) fun _=>?_⟩
  exact⟨fun _=>by omega,i+1,jn rfl rfl rfl rfl,by omega,mlt aB⟩
 ·intro h
  exact⟨rf,tv⟩
end
section
open Go.TM
variable [aW]
end
section
open Go.TM Go.Proofs Go.Sort Go.Shelf
theorem tr{w:World}{c5:Nat}{c:Array Value}{t:TypeId}(h:w.heap[c5]?=some (.cells c t (0,0)))(o:Nat):w.frozen? ⟨c5,o,none⟩=false:=by
 unfold World.frozen?
 rw[h];simp
theorem Kr{α:Type}(d:Array α):d.extract 0 d.size=d:=by simp
section
variable [cy]
theorem Iq{P:Program}{f:Nat}(qM:gS P f){args:List AV}{m:Nat}{K:ae}(hK:∀i,m<=i->aa K i=.none)
 (bG:∀(w:World) (G:Gh) (vs:List Value),nu G.M->Fit G w (aa K)->cG G args vs->Calls P f vs.toArray w fun e w'=>e=.returned (.tuple #[])/\w'=w):aw P f args m K 0 [] K:=by
 refine⟨qM,fun w G vs nr di hr=>Calls.mono (bG w G vs nr di hr) ?_⟩
 rintro e w' ⟨rfl,rfl⟩
 exact⟨_,[],K,G,rfl,⟨rfl,rfl⟩,⟨di,fun i hi=>hK i (by omega),.gr [] [] rfl (by simp),.refl _,fun _ _=>rfl,fun _ _ _ _ h=>h,fun _ _ _=>⟨rfl,rfl⟩,fun i b o=>.inr ⟨i,o⟩,rfl,rfl,rfl,adM _⟩⟩
theorem nR{P:Program}{f:Nat}{args:List AV}{m ex:Nat}{K:ae}{Q Q':List AV->ae->Prop}(h:bX P f args m K ex Q)(hQ:∀r k,Q r k->Q' r k):bX P f args m K ex Q':=
 ⟨h.1,fun w G vs a b c=>Calls.mono (h.2 w G vs a b c) fun _ _ ⟨v,r,k,G',h1,h2,h3⟩=>⟨v,r,k,G',h1,hQ r k h2,h3⟩⟩
theorem Ut{G:Gh}{w:World}{k:Nat}{K3:ae}{x:AV}{vs:List Value}(di:Fit G w (aa ((0,.tree 0 0 (.aI k []))::K3)))(hr:cG G [.own 0 0 0 [],x] vs):∃p cap fv,vs=[.slice p 0 cap,fv]:=by
 match vs,hr.1 with
 |[u,fv],_=>
  have hu:=hr.2 0 _ u rfl rfl
  cases hu with|own _ _ _ _ _ hu PE=>
  obtain⟨u0,Kq,_,bo⟩:=di.node (p:=[]) (show aa ((0,ax.tree 0 0 (.aI k []))::K3) 0=.tree 0 0 (.aI k [])from rfl) rfl rfl
  rw[hu]at Kq;injection Kq with Kq;subst Kq
  rcases gX.1 bo with⟨_,rfl⟩|⟨c5,off,cap,c,t,rfl,_⟩
  ·exact⟨none,0,fv,rfl⟩
  ·exact⟨_,cap,fv,rfl⟩
theorem XY{G:Gh}{g:Nat}{v:Value}(h:aK G (.dv (.fn g [])) v):v=.func (.func g) #[] #[]:=by
 cases h with
 |dv h=>
  cases h with
  |fn _ _ vs hl _=>
   have:vs=[]:=List.length_eq_zero_iff.1 (by simpa using hl.symm)
   subst this;rfl
theorem CT{P:Program}{ρ:Ren}(L:SlLaysF0.n6 P ρ)(qM:gS P (ρ.f 6)){α:Type}[Inhabited α]{vals:α->List Int}{e:α->DV}{k:Nat}(Ep:0<k)(he:∀x,(e x).cells=(vals x).map fun n=>DV.int .i64 n)(hk:∀x,(vals x).length=k)
 (aE:∀w,(isAgg (ρ.t 24)).run P w=.ok true w) (zE:∀w,(Go.sizeOf (ρ.t 24)).run P w=.ok k w) (cf:α->α->Int) (hO:SWO (ltOf cf)) (g:Nat) (eg:∀args w,(callFunc g args).run P w=.ok (.enter g args) w)
 (acf:∀(x y:α) (W:World),Calls P g #[.agg ((vals x).map (Value.int .i64)).toArray,.agg ((vals y).map (Value.int .i64)).toArray] W fun e w'=>e=.returned (.int .i64 (cf x y))/\∃q FA,w'=grow (W.drewN q) FA)
 (l:List α) (ck:l.length<4611686018427387904):
 bX P (ρ.f 6) [.own 0 0 0 [],.dv (.fn g [])] 1 [(0,.tree 0 0 (.aI k (l.map e)))] 0 fun rs K'=>rs=[]/\∃l':List α,(l'.Perm l/\l'.Pairwise fun x y=>ltOf cf y x=false)/\K'=[(0,.tree 0 0 (.aI k (l'.map e)))]:=by
 by_cases dw:l=[]
 ·subst dw
  refine nR (Iq qM (fun i hi=>(by match i,hi with|i+1,_=>rfl)) fun w G vs nr di hr=>?_) fun r k' iL=>⟨iL.1,[],⟨.refl _,.nil⟩,iL.2⟩
  obtain⟨p,cap,fv,rfl⟩:=Ut (K3:=[]) di hr
  exact AnyF.slices_SortFunc_none L p cap fv w
 refine nR (vG qM he hk dw (by omega) (K3:=[]) (fun _ _=>rfl) (fun l':List α=>l'.Perm l/\l'.Pairwise fun x y=>ltOf cf y x=false) (fun l' h=>h.1.length_eq) ?_) fun r k' iL=>iL
 rintro w G c5 off cap xs di nr hr _ ⟨c,t,hblk,cV⟩
 obtain⟨fv,rfl⟩:∃fv,xs=[fv]:=by
  match xs,hr.1 with
  |[a],_=>exact⟨a,rfl⟩
 have hfv:=XY (hr.2 0 _ fv rfl rfl)
 subst hfv
 have G8:c5<w.heap.size:=(adw.1 hblk).1
 have lI:∀(d:Array α) (tt:Nat),tt<d.size*k->∃x,d.toList[tt/k]?=some x/\∃n,(vals x)[tt%k]?=some n/\(flatK (fun x=>(vals x).map (Value.int .i64)) k d)[tt]! = .int .i64 n:=fun d tt ht=>by
  have h1:tt/k<d.size:=(Nat.div_lt_iff_lt_mul Ep).2 ht
  have h2:tt%k<(vals d[tt/k]).length:=by rw[hk];exact Nat.mod_lt _ Ep
  refine⟨d[tt/k],by simp[h1],(vals d[tt/k])[tt%k],abK h2,?_⟩
  rw[get_flatK _ _ _ _ ht,getElem!_pos d _ h1,getElem!_pos _ _ (by simpa using h2)]
  simp
 have hH:HoldsK (fun x=>(vals x).map (Value.int .i64)) k w c5 off l.toArray:=fun j hj=>by
  rw[size_flatK]at hj
  obtain⟨x,hx,n,hn,hf⟩:=lI _ j hj
  have h3:=cV (j/k) x (j%k) n (by simpa using hx) hn
  rw[show off+j/k*k+j%k=off+j by rw[Nat.add_assoc,Nat.div_add_mod' j k]]at h3
  refine⟨?_,tr hblk _⟩
  rw[hf]
  unfold World.cell?
  rw[hblk]
  exact h3
 have Uu:=AnyQ.slices_SortFunc L k aE zE (fun x=>(vals x).map (Value.int .i64)) (fun x=>by rw[adi,hk]) (fun x v hv=>by obtain⟨n,_,rfl⟩:=adK.1 hv;rfl) cf hO g #[] c5 off cap l.toArray w eg (fun m os dk hs x y=>by simpa using acf x y _) hH G8 (by simpa using ck)
 refine Calls.mono Uu ?_
 rintro en w' ⟨rfl,d',n,os,hp,hs,rfl⟩
 have zG:d'.size=l.length:=by simpa using hp.1
 have yM:d'.toList.Perm l:=by
  have:=hp.2.2
  rw[show l.toArray.size=d'.size by simp[zG],Kr,show d'.size=l.toArray.size by simp[zG],Kr]at this
  simpa using this
 refine⟨rfl,d'.toList,⟨yM,?_⟩,?_⟩
 ·rw[List.pairwise_iff_getElem]
  intro i j hi hj K4
  have:=hs i j (adx _) K4 (by simpa[zG]using hj)
  rw[getElem!_pos d' j (by simpa using hj),getElem!_pos d' i (by simpa using hi)]at this
  simpa using this
 ·refine vI (F:=flatK (fun x=>(vals x).map (Value.int .i64)) k d') G8 (fun i x j n hx hn=>?_) fun c' t' fr' qH=>?_
  ·have hj:j<k:=by have:=(adj.1 hn).1;rw[hk]at this;exact this
   have hi:i<d'.size:=by have:=(adj.1 hx).1;simpa using this
   have aB:i*k+j<d'.size*k:=by
    have:(i+1)*k<=d'.size*k:=adN _ hi
    rw[Nat.add_mul,Nat.one_mul]at this;omega
   refine⟨by rw[size_flatK];exact aB,?_⟩
   obtain⟨x2,Wh,n2,Pl,hf⟩:=lI d' (i*k+j) aB
   have q1:(i*k+j)/k=i:=by rw[Nat.mul_comm,Nat.mul_add_div Ep,Nat.div_eq_of_lt hj];rfl
   have q2:(i*k+j)%k=j:=by rw[Nat.mul_comm,Nat.mul_add_mod,Nat.mod_eq_of_lt hj]
   rw[q1,hx]at Wh;injection Wh with Wh;subst Wh
   rw[q2,hn]at Pl;injection Pl with Pl;subst Pl
   exact hf
  ·rw[size_flatK]
   rw[hblk]at qH;injection qH with qH;injection qH with D5 _ _;subst D5
   have hl0:0<l.length:=List.length_pos_iff.2 dw
   have aB:d'.size*k-1<l.toArray.size*k:=by
    have:=Nat.mul_pos hl0 Ep
    simp[zG];omega
   obtain⟨x,hx,n2,Pl,_⟩:=lI l.toArray _ aB
   have h3:=cV _ x _ n2 (by simpa using hx) Pl
   have:=(adw.1 h3).1
   rw[Nat.add_assoc,Nat.div_add_mod']at this
   omega
end
instance:Inhabited Lt:=⟨⟨0,0,0⟩⟩
theorem w5(x y:Lt):ltOf Il x y=decide (x.f<y.f\/x.f=y.f/\x.a<y.a):=by
 unfold ltOf Il qP
 by_cases h1:x.f<y.f
 ·simp[h1]
 ·by_cases h2:y.f<x.f
  ·simp[h1,h2];omega
  ·have:x.f=y.f:=by omega
   simp[this]
   split<;>rename_i h3
   ·simp;omega
   ·split<;>simp<;>omega
theorem XZ:SWO (ltOf Il)where
 irrefl x:=by rw[w5];simp
 trans x y z h1 h2:=by rw[w5]at *; simp at *; omega
 ntrans x y z h1 h2:=by rw[w5]at *; simp at *; omega
variable [aW]
theorem FE(l:List Lt)(hl:l.length<=1000000):bX Tryz.prog 231 [.own 0 0 0 [],.dv (.fn 232 [])] 1 [(0,.tree 0 0 (.aI 3 (l.map aD)))] 0 fun rs K'=>rs=[]/\∃l':List Lt,(l'.Perm l/\l'.Pairwise leq)/\K'=[(0,.tree 0 0 (.aI 3 (l'.map aD)))]:=
 nR (CT (vals:=fun x:Lt=>[x.f,x.a,x.n]) (e:=aD) XT ⟨_,Tryz.func231,by kernel_rfl,rfl⟩ (by omega) (fun _=>rfl) (fun _=>rfl) Tryz.isAgg71 Tryz.sizeOf71 Il XZ 232 (enters_of Tryz.func232 (by kernel_rfl) rfl) aaQ l (by omega)) fun r k ⟨h1,l',⟨h2,h3⟩,h4⟩=>⟨h1,l',⟨h2,h3.imp fun {x y} h=>by
  rw[w5]at h
  unfold leq
  simp at h;omega⟩,h4⟩
end
end Go.Proofs.YtfpebgpgabjieaaGreatDoor
