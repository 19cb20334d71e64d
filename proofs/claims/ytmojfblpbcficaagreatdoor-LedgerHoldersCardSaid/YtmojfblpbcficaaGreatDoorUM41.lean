import Derived.Test.YtmojfblpbcficaaGreatDoorUM40
import Derived.Test.YtmojfblpbcficaaGreatDoorUM25
set_option linter.all false
namespace Go.Proofs.YtmojfblpbcficaaGreatDoor
set_option maxRecDepth 100000
set_option maxHeartbeats 8000000
open Go.TM
def qn(R:RL)(a it:Int):Int:=br (aW R.st (a,it))
def YE(n:List Int)(p:Int):Int:=1+pick n (p+1) 4
def ZG(n:List Int)(p:Int):Int:=if 1+pick n (p+2) 4=YE n p then 5 else 1+pick n (p+2) 4
def nxI(n:List Int)(p:Int):Int:=pick n (p+3) 5
def ZH(R:RL)(n:List Int)(p:Int):Int:=1+pick n (p+4) (if 1<qn R (YE n p) (nxI n p)then qn R (YE n p) (nxI n p)else 1)
def Eb(n:List Int)(p:Int):Int:=(nxI n p+1+pick n (p+5) 4).tmod 5
def tX(a t kd fr to it n:Int)(ps:List Lt):cJ:=⟨0,kd,a,t,-1,0,[⟨fr,to,it,n,ps⟩]⟩
def qo(R:RL)(n:List Int)(p:Int):cJ:=
 let t:Int:=(R.sp.length:Int).tdiv 2
 let a:=YE n p
 let b:=ZG n p
 let it:=nxI n p
 if pick n p 16<4 then⟨0,0,a,t,-1,0,[⟨0,a,it,1+pick n (p+4) 12,[]⟩,⟨0,b,(it+1).tmod 5,1+pick n (p+5) 9,[]⟩]⟩
 else if pick n p 16<9 then⟨0,2,a,t,-1,0,⟨a,b,it,ZH R n p,[]⟩::if 0<qn R b (Eb n p)then[⟨b,a,Eb n p,1+pick n (p+5) (qn R b (Eb n p)),[]⟩]else[]⟩
 else if pick n p 16=9 then tX a t 3 a b it (ZH R n p) []
 else if pick n p 16=10 then tX a t 1 a 0 it (ZH R n p) []
 else if pick n p 16<14 then
  let r:=1+pick n (p+3) 4
  let fl:=bif r==1 then pick n (p+4) 3==0 else false
  let tm:=1+pick n (p+5) 2
  match dY[r.toNat]? with
  |some x=>⟨0,4,a,t,bif fl then -2-r else r,tm,vq a tm x.tk++vt a tm (bif fl then x.bk else x.gv)⟩
  |none=>tX a t 0 0 0 0 0 []
 else if pick n p 16=14 then tX a t 6 a 0 it (ZH R n p) []
 else tX a t 5 0 a it 3 [⟨(R.sh+1).tmod 12*4294967296+pick n (p+4) 9,0,3⟩]
theorem RK(n:Int){m:Int}(hm:1<=m):0<=fC n m/\fC n m<m:=by
 have h1:=Int.tmod_lt_of_pos n (show 0<m by omega)
 have h2:=Int.lt_tmod_of_pos n (show 0<m by omega)
 unfold fC
 split<;>omega
theorem cW(l:List Int)(i:Int){m:Int}(hm:1<=m):0<=pick l i m/\pick l i m<m:=by
 unfold pick
 split
 ·omega
 split
 ·exact RK _ hm
 ·omega
variable [bp]
theorem Ce(R:RL)(n:List Int)(p:Int)(hp:0<=p/\p<=1000)(hR:RG R):aj Tryz.prog 14 [.ptr 0 0,.dv (Ints n),.dv (I p)] 4 (de R) 0 [cH (aC (qo R n p))] (de R):=by
 have lp:(R.sp.map aC).length=R.sp.length:=WY ..
 have ak:=hR.st
 have ZI:∀a i,aj Tryz.prog 44 [.ptr 0 0,.dv (I a),.dv (I i)] 4 (de R) 0 [.dv (I (qn R a i))] (de R):=fun a i=>BT R a i (by omega) (by have:=(hR.mB (a,i)).2;omega)
 have YF:∀a i,0<=qn R a i/\qn R a i<=4503599627370496:=fun a i=>vl _
 have nx:qo R n p=qo R n p:=rfl
 conv at nx=>rhs;unfold qo
 refine cO Tryz.func14 rfl (by kernel_rfl) ?_
 have b1:=cW n (p+1) (m:=4) (by omega)
 have b2:=cW n (p+2) (m:=4) (by omega)
 have b3:=cW n (p+3) (m:=5) (by omega)
 have b0:=cW n p (m:=16) (by omega)
 have bt:0<=(R.sp.length:Int).tdiv 2/\(R.sp.length:Int).tdiv 2<=900000:=by rw[Int.tdiv_eq_ediv_of_nonneg (by omega)];have:=hR.sp;omega
 rw[<-lp]at nx bt
 refine⟨fun _ h=>(by cases h),fun _=>by omega,fun _=>by omega,?_⟩
 refine .inl ⟨_,fun _=>(aU n (p+1) 4 (by omega) (by omega)).ok,?_⟩
 refine⟨fun _=>by omega,fun _=>by omega,?_⟩
 refine .inl ⟨_,fun _=>(aU n (p+2) 4 (by omega) (by omega)).ok,?_⟩
 refine⟨fun _=>by omega,?_⟩
 have ba:=YF (1+pick n (p+1) 4) (pick n (p+3) 5)
 have bm:1<=(if 1<qn R (1+pick n (p+1) 4) (pick n (p+3) 5)then qn R (1+pick n (p+1) 4) (pick n (p+3) 5)else 1)/\(if 1<qn R (1+pick n (p+1) 4) (pick n (p+3) 5)then qn R (1+pick n (p+1) 4) (pick n (p+3) 5)else 1)<=4503599627370496:=by split<;>omega
 have b4:=cW n (p+4) bm.1
 have o:∀{q:Int},p+1<=q/\q<=p+5->-9223372036854775808<=q/\q<=9223372036854775807:=by omega
 have oN:∀{q:Int},0<=q/\q<=4503599627370500->-9223372036854775808<=q/\q<=9223372036854775807:=by omega
 refine T5 (fun h=>?_) fun h=>?_
 ·have hB:ZG n p=5:=if_pos (beq_iff_eq.1 h)
  rw[hB]at nx
  clear h
  refine⟨fun _=>o (by omega),?_⟩
  refine .inl ⟨_,fun _=>(aU n (p+3) 5 (by omega) (by omega)).ok,?_⟩
  refine⟨fun _=>o (by omega),?_⟩
  refine .inr (cl [0,1,2,3] (ZI (1+pick n (p+1) 4) (pick n (p+3) 5)) (by kernel_rfl) rfl rfl ?_)
  refine .inl ⟨_,fun _=>(aU n (p+4) _ bm.1 (by omega)).ok,?_⟩
  refine⟨fun _=>oN (by omega),?_⟩
  refine .inr (.inl ⟨[ao ⟨1+pick n (p+1) 4,5,pick n (p+3) 5,ZH R n p,[]⟩],rfl,⟨rf,rf,rf,rf,DV.aI 3,tv⟩,(by simp;rfl),?_⟩)
  refine .inl ⟨_,fun _=>(aU n p 16 (by omega) (by omega)).ok,?_⟩
  have c12:=cW n (p+4) (m:=12) (by omega)
  have c9:=cW n (p+5) (m:=9) (by omega)
  have c4:=cW n (p+5) (m:=4) (by omega)
  have d4:=cW n (p+3) (m:=4) (by omega)
  have d2:=cW n (p+5) (m:=2) (by omega)
  have d9:=cW n (p+4) (m:=9) (by omega)
  have t12:0<=(R.sh+1).tmod 12/\(R.sh+1).tmod 12<12:=⟨Int.tmod_nonneg _ (by have:=hR.sh;omega),Int.tmod_lt_of_pos _ (by omega)⟩
  have pf:=hR.sh
  dsimp only at nx
  generalize hk:pick n p 16=k at*
  have hk:k=0\/k=1\/k=2\/k=3\/k=4\/k=5\/k=6\/k=7\/k=8\/k=9\/k=10\/k=11\/k=12\/k=13\/k=14\/k=15:=by omega
  rcases hk with rfl|rfl|rfl|rfl|rfl|rfl|rfl|rfl|rfl|rfl|rfl|rfl|rfl|rfl|rfl|rfl
  all_goals(repeat first|refine T5 (fun h=>absurd h (by decide)) fun _=>?_|refine T5 (fun _=>?_) fun h=>absurd h (by decide))
  iterate 4
   rw[nx,if_pos (by decide)]
   repeat first|refine⟨fun _=>o (by omega),?_⟩|refine⟨fun _=>oN (by omega),?_⟩|refine⟨fun _ h=>absurd h (by decide),?_⟩
   refine .inl ⟨_,fun _=>(aU n (p+4) 12 (by omega) (by omega)).ok,?_⟩
   repeat first|refine⟨fun _=>o (by omega),?_⟩|refine⟨fun _=>oN (by omega),?_⟩|refine⟨fun _ h=>absurd h (by decide),?_⟩
   refine .inl ⟨_,fun _=>(aU n (p+5) 9 (by omega) (by omega)).ok,?_⟩
   repeat first|refine⟨fun _=>o (by omega),?_⟩|refine⟨fun _=>oN (by omega),?_⟩|refine⟨fun _ h=>absurd h (by decide),?_⟩
   refine .inl ⟨[ao ⟨0,1+pick n (p+1) 4,pick n (p+3) 5,1+pick n (p+4) 12,[]⟩,ao ⟨0,5,(pick n (p+3) 5+1).tmod 5,1+pick n (p+5) 9,[]⟩],rfl,⟨rf,rf,rf,rf,DV.aI 3,rf,rf,rf,rf,DV.aI 3,tv⟩,(by simp;exact⟨rfl,rfl⟩),?_⟩
   exact⟨_,_,⟨rfl,rfl⟩,by kernel_rfl,⟨⟨rf,rf,rf,rf,rf,rf,rf,tv⟩,tv⟩,aV (k:=de R) rfl⟩
  iterate 5
   rw[nx,if_neg (by decide),if_pos (by decide)]
   repeat first|refine⟨fun _=>o (by omega),?_⟩|refine⟨fun _=>oN (by omega),?_⟩|refine⟨fun _ h=>absurd h (by decide),?_⟩
   refine .inl ⟨_,fun _=>(aU n (p+5) 4 (by omega) (by omega)).ok,?_⟩
   repeat first|refine⟨fun _=>o (by omega),?_⟩|refine⟨fun _=>oN (by omega),?_⟩|refine⟨fun _ h=>absurd h (by decide),?_⟩
   refine .inr (cl [0,1,2,3] (ZI (5) (Eb n p)) (by kernel_rfl) rfl rfl ?_)
   refine T5 (fun h=>?_) fun h=>?_
   ·have h:=adz h
    have bb:=YF (5) (Eb n p)
    have b6:=cW n (p+5) (m:=qn R (5) (Eb n p)) (by omega)
    rw[if_pos h]
    repeat first|refine⟨fun _=>o (by omega),?_⟩|refine⟨fun _=>oN (by omega),?_⟩|refine⟨fun _ h=>absurd h (by decide),?_⟩
    refine .inr (cl [0,1,2,3] (ZI (5) (Eb n p)) (by kernel_rfl) rfl rfl ?_)
    refine .inl ⟨_,fun _=>(aU n (p+5) _ (by omega) (by omega)).ok,?_⟩
    repeat first|refine⟨fun _=>o (by omega),?_⟩|refine⟨fun _=>oN (by omega),?_⟩|refine⟨fun _ h=>absurd h (by decide),?_⟩
    refine .inl ⟨[ao ⟨5,1+pick n (p+1) 4,Eb n p,1+pick n (p+5) (qn R (5) (Eb n p)),[]⟩],rfl,⟨rf,rf,rf,rf,DV.aI 3,tv⟩,(by simp;rfl),?_⟩
    refine .inr ⟨[ao ⟨5,1+pick n (p+1) 4,Eb n p,1+pick n (p+5) (qn R (5) (Eb n p)),[]⟩],b7.refl _,bM (by simp),by simp,?_⟩
    refine⟨by kernel_rfl,?_⟩
    exact⟨_,_,⟨rfl,rfl⟩,by kernel_rfl,⟨⟨rf,rf,rf,rf,rf,rf,rf,tv⟩,tv⟩,aV (k:=de R) rfl⟩
   ·rw[if_neg (adA h)]
    exact⟨_,_,⟨rfl,rfl⟩,by kernel_rfl,⟨⟨rf,rf,rf,rf,rf,rf,rf,tv⟩,tv⟩,aV (k:=de R) rfl⟩
  rw[nx,if_neg (by decide),if_neg (by decide),if_pos (by decide)]
  exact⟨_,_,⟨rfl,rfl⟩,by kernel_rfl,⟨⟨rf,rf,rf,rf,rf,rf,rf,tv⟩,tv⟩,aV (k:=de R) rfl⟩
  rw[nx,if_neg (by decide),if_neg (by decide),if_neg (by decide),if_pos (by decide)]
  refine⟨fun _=>⟨by simp,by simp⟩,[I 0],⟨rf,tv⟩,_,rfl,?_⟩
  exact⟨_,_,⟨rfl,rfl⟩,by kernel_rfl,⟨⟨rf,rf,rf,rf,rf,rf,rf,tv⟩,tv⟩,aV (k:=de R) rfl⟩
  iterate 3
   rw[nx,if_neg (by decide),if_neg (by decide),if_neg (by decide),if_neg (by decide),if_pos (by decide)]
   repeat first|refine⟨fun _=>o (by omega),?_⟩|refine⟨fun _=>oN (by omega),?_⟩|refine⟨fun _ h=>absurd h (by decide),?_⟩
   refine .inl ⟨_,fun _=>(aU n (p+3) 4 (by omega) (by omega)).ok,?_⟩
   repeat first|refine⟨fun _=>o (by omega),?_⟩|refine⟨fun _=>oN (by omega),?_⟩|refine⟨fun _ h=>absurd h (by decide),?_⟩
   obtain⟨x,hx⟩:∃x,dY[(1+pick n (p+3) 4).toNat]?=some x:=⟨_,IF (by show _<5;omega)⟩
   rw[hx]
   repeat first|refine g1 ?_|refine⟨fun _=>o (by omega),?_⟩
   refine .inl ⟨_,fun _=>(aU n (p+4) 3 (by omega) (by omega)).ok,?_⟩
   repeat first|refine g1 ?_|refine g3 ?_|refine⟨fun _=>o (by omega),?_⟩
   refine .inl ⟨_,fun _=>(aU n (p+5) 2 (by omega) (by omega)).ok,?_⟩
   repeat first|refine⟨fun _=>o (by omega),?_⟩|refine⟨fun _=>oN (by omega),?_⟩|refine⟨fun _ h=>absurd h (by decide),?_⟩
   refine .inl ⟨_,fun _=>(B3 (1+pick n (p+3) 4) (1+pick n (p+5) 2) (1+pick n (p+1) 4) _ _ x hx (by omega) (by omega)).ok,?_⟩
   refine⟨by kernel_rfl,?_⟩
   exact⟨_,_,⟨rfl,rfl⟩,by kernel_rfl,⟨⟨rf,rf,rf,rf,rf,rf,rf,tv⟩,tv⟩,aV (k:=de R) rfl⟩
  rw[nx,if_neg (by decide),if_neg (by decide),if_neg (by decide),if_neg (by decide),if_neg (by decide),if_pos (by decide)]
  refine⟨fun _=>⟨by simp,by simp⟩,[I 0],⟨rf,tv⟩,_,rfl,?_⟩
  exact⟨_,_,⟨rfl,rfl⟩,by kernel_rfl,⟨⟨rf,rf,rf,rf,rf,rf,rf,tv⟩,tv⟩,aV (k:=de R) rfl⟩
  rw[nx,if_neg (by decide),if_neg (by decide),if_neg (by decide),if_neg (by decide),if_neg (by decide),if_neg (by decide)]
  repeat first|refine⟨fun _=>o (by omega),?_⟩|refine⟨fun _=>oN (by omega),?_⟩|refine⟨fun _ h=>absurd h (by decide),?_⟩
  refine .inl ⟨_,fun _=>(aU n (p+4) 9 (by omega) (by omega)).ok,?_⟩
  repeat first|refine⟨fun _=>o (by omega),?_⟩|refine⟨fun _=>oN (by omega),?_⟩|refine⟨fun _ h=>absurd h (by decide),?_⟩
  refine .inl ⟨[aA ⟨(R.sh+1).tmod 12*4294967296+pick n (p+4) 9,0,3⟩],rfl,⟨rf,rf,rf,tv⟩,(by simp;rfl),?_⟩
  refine .inl ⟨[ao ⟨0,1+pick n (p+1) 4,pick n (p+3) 5,3,[⟨(R.sh+1).tmod 12*4294967296+pick n (p+4) 9,0,3⟩]⟩],rfl,⟨rf,rf,rf,rf,rf,tv⟩,(by simp;rfl),?_⟩
  exact⟨_,_,⟨rfl,rfl⟩,by kernel_rfl,⟨⟨rf,rf,rf,rf,rf,rf,rf,tv⟩,tv⟩,aV (k:=de R) rfl⟩
 ·have hB:ZG n p=1+pick n (p+2) 4:=if_neg (beq_eq_false_iff_ne.1 h)
  rw[hB]at nx
  clear h
  refine⟨fun _=>o (by omega),?_⟩
  refine .inl ⟨_,fun _=>(aU n (p+3) 5 (by omega) (by omega)).ok,?_⟩
  refine⟨fun _=>o (by omega),?_⟩
  refine .inr (cl [0,1,2,3] (ZI (1+pick n (p+1) 4) (pick n (p+3) 5)) (by kernel_rfl) rfl rfl ?_)
  refine .inl ⟨_,fun _=>(aU n (p+4) _ bm.1 (by omega)).ok,?_⟩
  refine⟨fun _=>oN (by omega),?_⟩
  refine .inr (.inl ⟨[ao ⟨1+pick n (p+1) 4,1+pick n (p+2) 4,pick n (p+3) 5,ZH R n p,[]⟩],rfl,⟨rf,rf,rf,rf,DV.aI 3,tv⟩,(by simp;rfl),?_⟩)
  refine .inl ⟨_,fun _=>(aU n p 16 (by omega) (by omega)).ok,?_⟩
  have c12:=cW n (p+4) (m:=12) (by omega)
  have c9:=cW n (p+5) (m:=9) (by omega)
  have c4:=cW n (p+5) (m:=4) (by omega)
  have d4:=cW n (p+3) (m:=4) (by omega)
  have d2:=cW n (p+5) (m:=2) (by omega)
  have d9:=cW n (p+4) (m:=9) (by omega)
  have t12:0<=(R.sh+1).tmod 12/\(R.sh+1).tmod 12<12:=⟨Int.tmod_nonneg _ (by have:=hR.sh;omega),Int.tmod_lt_of_pos _ (by omega)⟩
  have pf:=hR.sh
  dsimp only at nx
  generalize hk:pick n p 16=k at*
  have hk:k=0\/k=1\/k=2\/k=3\/k=4\/k=5\/k=6\/k=7\/k=8\/k=9\/k=10\/k=11\/k=12\/k=13\/k=14\/k=15:=by omega
  rcases hk with rfl|rfl|rfl|rfl|rfl|rfl|rfl|rfl|rfl|rfl|rfl|rfl|rfl|rfl|rfl|rfl
  all_goals(repeat first|refine T5 (fun h=>absurd h (by decide)) fun _=>?_|refine T5 (fun _=>?_) fun h=>absurd h (by decide))
  iterate 4
   rw[nx,if_pos (by decide)]
   repeat first|refine⟨fun _=>o (by omega),?_⟩|refine⟨fun _=>oN (by omega),?_⟩|refine⟨fun _ h=>absurd h (by decide),?_⟩
   refine .inl ⟨_,fun _=>(aU n (p+4) 12 (by omega) (by omega)).ok,?_⟩
   repeat first|refine⟨fun _=>o (by omega),?_⟩|refine⟨fun _=>oN (by omega),?_⟩|refine⟨fun _ h=>absurd h (by decide),?_⟩
   refine .inl ⟨_,fun _=>(aU n (p+5) 9 (by omega) (by omega)).ok,?_⟩
   repeat first|refine⟨fun _=>o (by omega),?_⟩|refine⟨fun _=>oN (by omega),?_⟩|refine⟨fun _ h=>absurd h (by decide),?_⟩
   refine .inl ⟨[ao ⟨0,1+pick n (p+1) 4,pick n (p+3) 5,1+pick n (p+4) 12,[]⟩,ao ⟨0,1+pick n (p+2) 4,(pick n (p+3) 5+1).tmod 5,1+pick n (p+5) 9,[]⟩],rfl,⟨rf,rf,rf,rf,DV.aI 3,rf,rf,rf,rf,DV.aI 3,tv⟩,(by simp;exact⟨rfl,rfl⟩),?_⟩
   exact⟨_,_,⟨rfl,rfl⟩,by kernel_rfl,⟨⟨rf,rf,rf,rf,rf,rf,rf,tv⟩,tv⟩,aV (k:=de R) rfl⟩
  iterate 5
   rw[nx,if_neg (by decide),if_pos (by decide)]
   repeat first|refine⟨fun _=>o (by omega),?_⟩|refine⟨fun _=>oN (by omega),?_⟩|refine⟨fun _ h=>absurd h (by decide),?_⟩
   refine .inl ⟨_,fun _=>(aU n (p+5) 4 (by omega) (by omega)).ok,?_⟩
   repeat first|refine⟨fun _=>o (by omega),?_⟩|refine⟨fun _=>oN (by omega),?_⟩|refine⟨fun _ h=>absurd h (by decide),?_⟩
   refine .inr (cl [0,1,2,3] (ZI (1+pick n (p+2) 4) (Eb n p)) (by kernel_rfl) rfl rfl ?_)
   refine T5 (fun h=>?_) fun h=>?_
   ·have h:=adz h
    have bb:=YF (1+pick n (p+2) 4) (Eb n p)
    have b6:=cW n (p+5) (m:=qn R (1+pick n (p+2) 4) (Eb n p)) (by omega)
    rw[if_pos h]
    repeat first|refine⟨fun _=>o (by omega),?_⟩|refine⟨fun _=>oN (by omega),?_⟩|refine⟨fun _ h=>absurd h (by decide),?_⟩
    refine .inr (cl [0,1,2,3] (ZI (1+pick n (p+2) 4) (Eb n p)) (by kernel_rfl) rfl rfl ?_)
    refine .inl ⟨_,fun _=>(aU n (p+5) _ (by omega) (by omega)).ok,?_⟩
    repeat first|refine⟨fun _=>o (by omega),?_⟩|refine⟨fun _=>oN (by omega),?_⟩|refine⟨fun _ h=>absurd h (by decide),?_⟩
    refine .inl ⟨[ao ⟨1+pick n (p+2) 4,1+pick n (p+1) 4,Eb n p,1+pick n (p+5) (qn R (1+pick n (p+2) 4) (Eb n p)),[]⟩],rfl,⟨rf,rf,rf,rf,DV.aI 3,tv⟩,(by simp;rfl),?_⟩
    refine .inr ⟨[ao ⟨1+pick n (p+2) 4,1+pick n (p+1) 4,Eb n p,1+pick n (p+5) (qn R (1+pick n (p+2) 4) (Eb n p)),[]⟩],b7.refl _,bM (by simp),by simp,?_⟩
    refine⟨by kernel_rfl,?_⟩
    exact⟨_,_,⟨rfl,rfl⟩,by kernel_rfl,⟨⟨rf,rf,rf,rf,rf,rf,rf,tv⟩,tv⟩,aV (k:=de R) rfl⟩
   ·rw[if_neg (adA h)]
    exact⟨_,_,⟨rfl,rfl⟩,by kernel_rfl,⟨⟨rf,rf,rf,rf,rf,rf,rf,tv⟩,tv⟩,aV (k:=de R) rfl⟩
  rw[nx,if_neg (by decide),if_neg (by decide),if_pos (by decide)]
  exact⟨_,_,⟨rfl,rfl⟩,by kernel_rfl,⟨⟨rf,rf,rf,rf,rf,rf,rf,tv⟩,tv⟩,aV (k:=de R) rfl⟩
  rw[nx,if_neg (by decide),if_neg (by decide),if_neg (by decide),if_pos (by decide)]
  refine⟨fun _=>⟨by simp,by simp⟩,[I 0],⟨rf,tv⟩,_,rfl,?_⟩
  exact⟨_,_,⟨rfl,rfl⟩,by kernel_rfl,⟨⟨rf,rf,rf,rf,rf,rf,rf,tv⟩,tv⟩,aV (k:=de R) rfl⟩
  iterate 3
   rw[nx,if_neg (by decide),if_neg (by decide),if_neg (by decide),if_neg (by decide),if_pos (by decide)]
   repeat first|refine⟨fun _=>o (by omega),?_⟩|refine⟨fun _=>oN (by omega),?_⟩|refine⟨fun _ h=>absurd h (by decide),?_⟩
   refine .inl ⟨_,fun _=>(aU n (p+3) 4 (by omega) (by omega)).ok,?_⟩
   repeat first|refine⟨fun _=>o (by omega),?_⟩|refine⟨fun _=>oN (by omega),?_⟩|refine⟨fun _ h=>absurd h (by decide),?_⟩
   obtain⟨x,hx⟩:∃x,dY[(1+pick n (p+3) 4).toNat]?=some x:=⟨_,IF (by show _<5;omega)⟩
   rw[hx]
   repeat first|refine g1 ?_|refine⟨fun _=>o (by omega),?_⟩
   refine .inl ⟨_,fun _=>(aU n (p+4) 3 (by omega) (by omega)).ok,?_⟩
   repeat first|refine g1 ?_|refine g3 ?_|refine⟨fun _=>o (by omega),?_⟩
   refine .inl ⟨_,fun _=>(aU n (p+5) 2 (by omega) (by omega)).ok,?_⟩
   repeat first|refine⟨fun _=>o (by omega),?_⟩|refine⟨fun _=>oN (by omega),?_⟩|refine⟨fun _ h=>absurd h (by decide),?_⟩
   refine .inl ⟨_,fun _=>(B3 (1+pick n (p+3) 4) (1+pick n (p+5) 2) (1+pick n (p+1) 4) _ _ x hx (by omega) (by omega)).ok,?_⟩
   refine⟨by kernel_rfl,?_⟩
   exact⟨_,_,⟨rfl,rfl⟩,by kernel_rfl,⟨⟨rf,rf,rf,rf,rf,rf,rf,tv⟩,tv⟩,aV (k:=de R) rfl⟩
  rw[nx,if_neg (by decide),if_neg (by decide),if_neg (by decide),if_neg (by decide),if_neg (by decide),if_pos (by decide)]
  refine⟨fun _=>⟨by simp,by simp⟩,[I 0],⟨rf,tv⟩,_,rfl,?_⟩
  exact⟨_,_,⟨rfl,rfl⟩,by kernel_rfl,⟨⟨rf,rf,rf,rf,rf,rf,rf,tv⟩,tv⟩,aV (k:=de R) rfl⟩
  rw[nx,if_neg (by decide),if_neg (by decide),if_neg (by decide),if_neg (by decide),if_neg (by decide),if_neg (by decide)]
  repeat first|refine⟨fun _=>o (by omega),?_⟩|refine⟨fun _=>oN (by omega),?_⟩|refine⟨fun _ h=>absurd h (by decide),?_⟩
  refine .inl ⟨_,fun _=>(aU n (p+4) 9 (by omega) (by omega)).ok,?_⟩
  repeat first|refine⟨fun _=>o (by omega),?_⟩|refine⟨fun _=>oN (by omega),?_⟩|refine⟨fun _ h=>absurd h (by decide),?_⟩
  refine .inl ⟨[aA ⟨(R.sh+1).tmod 12*4294967296+pick n (p+4) 9,0,3⟩],rfl,⟨rf,rf,rf,tv⟩,(by simp;rfl),?_⟩
  refine .inl ⟨[ao ⟨0,1+pick n (p+1) 4,pick n (p+3) 5,3,[⟨(R.sh+1).tmod 12*4294967296+pick n (p+4) 9,0,3⟩]⟩],rfl,⟨rf,rf,rf,rf,rf,tv⟩,(by simp;rfl),?_⟩
  exact⟨_,_,⟨rfl,rfl⟩,by kernel_rfl,⟨⟨rf,rf,rf,rf,rf,rf,rf,tv⟩,tv⟩,aV (k:=de R) rfl⟩
end Go.Proofs.YtmojfblpbcficaaGreatDoor
