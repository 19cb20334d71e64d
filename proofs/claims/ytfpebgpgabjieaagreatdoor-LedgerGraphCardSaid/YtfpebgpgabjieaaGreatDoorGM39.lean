import Derived.Test.YtfpebgpgabjieaaGreatDoorGM38
import Derived.Test.YtfpebgpgabjieaaGreatDoorGM25
set_option linter.all false
namespace Go.Proofs.YtfpebgpgabjieaaGreatDoor
set_option maxRecDepth 100000
set_option maxHeartbeats 8000000
open Go.TM
def p6(R:RL)(a it:Int):Int:=cu (bC R.st (a,it))
def Yz(n:List Int)(p:Int):Int:=1+pick n (p+1) 4
def ZU(n:List Int)(p:Int):Int:=if 1+pick n (p+2) 4=Yz n p then 5 else 1+pick n (p+2) 4
def nxI(n:List Int)(p:Int):Int:=pick n (p+3) 5
def ZV(R:RL)(n:List Int)(p:Int):Int:=1+pick n (p+4) (if 1<p6 R (Yz n p) (nxI n p)then p6 R (Yz n p) (nxI n p)else 1)
def DO(n:List Int)(p:Int):Int:=(nxI n p+1+pick n (p+5) 4).tmod 5
def oX(a t kd fr to it n:Int)(ps:List Lt):cG:=⟨0,kd,a,t,-1,0,[⟨fr,to,it,n,ps⟩]⟩
def rn(R:RL)(n:List Int)(p:Int):cG:=
 let t:Int:=(R.sp.length:Int).tdiv 2
 let a:=Yz n p
 let b:=ZU n p
 let it:=nxI n p
 if pick n p 16<4 then⟨0,0,a,t,-1,0,[⟨0,a,it,1+pick n (p+4) 12,[]⟩,⟨0,b,(it+1).tmod 5,1+pick n (p+5) 9,[]⟩]⟩
 else if pick n p 16<9 then⟨0,2,a,t,-1,0,⟨a,b,it,ZV R n p,[]⟩::if 0<p6 R b (DO n p)then[⟨b,a,DO n p,1+pick n (p+5) (p6 R b (DO n p)),[]⟩]else[]⟩
 else if pick n p 16=9 then oX a t 3 a b it (ZV R n p) []
 else if pick n p 16=10 then oX a t 1 a 0 it (ZV R n p) []
 else if pick n p 16<14 then
  let r:=1+pick n (p+3) 4
  let fl:=bif r==1 then pick n (p+4) 3==0 else false
  let tm:=1+pick n (p+5) 2
  match dA[r.toNat]? with
  |some x=>⟨0,4,a,t,bif fl then -2-r else r,tm,v7 a tm x.tk++v8 a tm (bif fl then x.bk else x.gv)⟩
  |none=>oX a t 0 0 0 0 0 []
 else if pick n p 16=14 then oX a t 6 a 0 it (ZV R n p) []
 else oX a t 5 0 a it 3 [⟨(R.sh+1).tmod 12*4294967296+pick n (p+4) 9,0,3⟩]
theorem Q9(n:Int){m:Int}(hm:1<=m):0<=ga n m/\ga n m<m:=by
 have h1:=Int.tmod_lt_of_pos n (show 0<m by omega)
 have h2:=Int.lt_tmod_of_pos n (show 0<m by omega)
 unfold ga
 split<;>omega
theorem cT(l:List Int)(i:Int){m:Int}(hm:1<=m):0<=pick l i m/\pick l i m<m:=by
 unfold pick
 split
 ·omega
 split
 ·exact Q9 _ hm
 ·omega
variable [bj]
theorem Ni(R:RL)(n:List Int)(p:Int)(hp:0<=p/\p<=1000)(hR:RG R):aj Tryz.prog 31 [.ptr 0 0,.dv (Ints n),.dv (I p)] 4 (dq R) 0 [cx (aP (rn R n p))] (dq R):=by
 have lp:(R.sp.map aP).length=R.sp.length:=adO ..
 have ak:=hR.st
 have ZW:∀a i,aj Tryz.prog 86 [.ptr 0 0,.dv (I a),.dv (I i)] 4 (dq R) 0 [.dv (I (p6 R a i))] (dq R):=fun a i=>ME R a i (by omega) (by have:=(hR.oK (a,i)).2;omega)
 have YA:∀a i,0<=p6 R a i/\p6 R a i<=4503599627370496:=fun a i=>I1 _
 have nx:rn R n p=rn R n p:=rfl
 conv at nx=>rhs;unfold rn
 refine cO Tryz.func31 rfl (by kernel_rfl) ?_
 have b1:=cT n (p+1) (m:=4) (by omega)
 have b2:=cT n (p+2) (m:=4) (by omega)
 have b3:=cT n (p+3) (m:=5) (by omega)
 have b0:=cT n p (m:=16) (by omega)
 have bt:0<=(R.sp.length:Int).tdiv 2/\(R.sp.length:Int).tdiv 2<=900000:=by rw[Int.tdiv_eq_ediv_of_nonneg (by omega)];have:=hR.sp;omega
 rw[<-lp]at nx bt
 refine⟨fun _ h=>(by cases h),fun _=>by omega,fun _=>by omega,?_⟩
 refine .inl ⟨_,fun _=>(aT n (p+1) 4 (by omega) (by omega)).ok,?_⟩
 refine⟨fun _=>by omega,fun _=>by omega,?_⟩
 refine .inl ⟨_,fun _=>(aT n (p+2) 4 (by omega) (by omega)).ok,?_⟩
 refine⟨fun _=>by omega,?_⟩
 have ba:=YA (1+pick n (p+1) 4) (pick n (p+3) 5)
 have bm:1<=(if 1<p6 R (1+pick n (p+1) 4) (pick n (p+3) 5)then p6 R (1+pick n (p+1) 4) (pick n (p+3) 5)else 1)/\(if 1<p6 R (1+pick n (p+1) 4) (pick n (p+3) 5)then p6 R (1+pick n (p+1) 4) (pick n (p+3) 5)else 1)<=4503599627370496:=by split<;>omega
 have b4:=cT n (p+4) bm.1
 have o:∀{q:Int},p+1<=q/\q<=p+5->-9223372036854775808<=q/\q<=9223372036854775807:=by omega
 have oN:∀{q:Int},0<=q/\q<=4503599627370500->-9223372036854775808<=q/\q<=9223372036854775807:=by omega
 refine adN (fun h=>?_) fun h=>?_
 ·have hB:ZU n p=5:=if_pos (beq_iff_eq.1 h)
  rw[hB]at nx
  clear h
  refine⟨fun _=>o (by omega),?_⟩
  refine .inl ⟨_,fun _=>(aT n (p+3) 5 (by omega) (by omega)).ok,?_⟩
  refine⟨fun _=>o (by omega),?_⟩
  refine .inr (cl [0,1,2,3] (ZW (1+pick n (p+1) 4) (pick n (p+3) 5)) (by kernel_rfl) rfl rfl ?_)
  refine .inl ⟨_,fun _=>(aT n (p+4) _ bm.1 (by omega)).ok,?_⟩
  refine⟨fun _=>oN (by omega),?_⟩
  refine .inr (.inl ⟨[aq ⟨1+pick n (p+1) 4,5,pick n (p+3) 5,ZV R n p,[]⟩],rfl,⟨rf,rf,rf,rf,DV.aL 3,tv⟩,(by simp;rfl),?_⟩)
  refine .inl ⟨_,fun _=>(aT n p 16 (by omega) (by omega)).ok,?_⟩
  have c12:=cT n (p+4) (m:=12) (by omega)
  have c9:=cT n (p+5) (m:=9) (by omega)
  have c4:=cT n (p+5) (m:=4) (by omega)
  have d4:=cT n (p+3) (m:=4) (by omega)
  have d2:=cT n (p+5) (m:=2) (by omega)
  have d9:=cT n (p+4) (m:=9) (by omega)
  have t12:0<=(R.sh+1).tmod 12/\(R.sh+1).tmod 12<12:=⟨Int.tmod_nonneg _ (by have:=hR.sh;omega),Int.tmod_lt_of_pos _ (by omega)⟩
  have oF:=hR.sh
  dsimp only at nx
  generalize hk:pick n p 16=k at*
  have hk:k=0\/k=1\/k=2\/k=3\/k=4\/k=5\/k=6\/k=7\/k=8\/k=9\/k=10\/k=11\/k=12\/k=13\/k=14\/k=15:=by omega
  rcases hk with rfl|rfl|rfl|rfl|rfl|rfl|rfl|rfl|rfl|rfl|rfl|rfl|rfl|rfl|rfl|rfl
  all_goals(repeat first|refine adN (fun h=>absurd h (by decide)) fun _=>?_|refine adN (fun _=>?_) fun h=>absurd h (by decide))
  iterate 4
   rw[nx,if_pos (by decide)]
   repeat first|refine⟨fun _=>o (by omega),?_⟩|refine⟨fun _=>oN (by omega),?_⟩|refine⟨fun _ h=>absurd h (by decide),?_⟩
   refine .inl ⟨_,fun _=>(aT n (p+4) 12 (by omega) (by omega)).ok,?_⟩
   repeat first|refine⟨fun _=>o (by omega),?_⟩|refine⟨fun _=>oN (by omega),?_⟩|refine⟨fun _ h=>absurd h (by decide),?_⟩
   refine .inl ⟨_,fun _=>(aT n (p+5) 9 (by omega) (by omega)).ok,?_⟩
   repeat first|refine⟨fun _=>o (by omega),?_⟩|refine⟨fun _=>oN (by omega),?_⟩|refine⟨fun _ h=>absurd h (by decide),?_⟩
   refine .inl ⟨[aq ⟨0,1+pick n (p+1) 4,pick n (p+3) 5,1+pick n (p+4) 12,[]⟩,aq ⟨0,5,(pick n (p+3) 5+1).tmod 5,1+pick n (p+5) 9,[]⟩],rfl,⟨rf,rf,rf,rf,DV.aL 3,rf,rf,rf,rf,DV.aL 3,tv⟩,(by simp;exact⟨rfl,rfl⟩),?_⟩
   exact⟨_,_,⟨rfl,rfl⟩,by kernel_rfl,⟨⟨rf,rf,rf,rf,rf,rf,rf,tv⟩,tv⟩,aZ (k:=dq R) rfl⟩
  iterate 5
   rw[nx,if_neg (by decide),if_pos (by decide)]
   repeat first|refine⟨fun _=>o (by omega),?_⟩|refine⟨fun _=>oN (by omega),?_⟩|refine⟨fun _ h=>absurd h (by decide),?_⟩
   refine .inl ⟨_,fun _=>(aT n (p+5) 4 (by omega) (by omega)).ok,?_⟩
   repeat first|refine⟨fun _=>o (by omega),?_⟩|refine⟨fun _=>oN (by omega),?_⟩|refine⟨fun _ h=>absurd h (by decide),?_⟩
   refine .inr (cl [0,1,2,3] (ZW (5) (DO n p)) (by kernel_rfl) rfl rfl ?_)
   refine adN (fun h=>?_) fun h=>?_
   ·have h:=ad5 h
    have bb:=YA (5) (DO n p)
    have b6:=cT n (p+5) (m:=p6 R (5) (DO n p)) (by omega)
    rw[if_pos h]
    repeat first|refine⟨fun _=>o (by omega),?_⟩|refine⟨fun _=>oN (by omega),?_⟩|refine⟨fun _ h=>absurd h (by decide),?_⟩
    refine .inr (cl [0,1,2,3] (ZW (5) (DO n p)) (by kernel_rfl) rfl rfl ?_)
    refine .inl ⟨_,fun _=>(aT n (p+5) _ (by omega) (by omega)).ok,?_⟩
    repeat first|refine⟨fun _=>o (by omega),?_⟩|refine⟨fun _=>oN (by omega),?_⟩|refine⟨fun _ h=>absurd h (by decide),?_⟩
    refine .inl ⟨[aq ⟨5,1+pick n (p+1) 4,DO n p,1+pick n (p+5) (p6 R (5) (DO n p)),[]⟩],rfl,⟨rf,rf,rf,rf,DV.aL 3,tv⟩,(by simp;rfl),?_⟩
    refine .inr ⟨[aq ⟨5,1+pick n (p+1) 4,DO n p,1+pick n (p+5) (p6 R (5) (DO n p)),[]⟩],bV.refl _,bM (by simp),by simp,?_⟩
    refine⟨by kernel_rfl,?_⟩
    exact⟨_,_,⟨rfl,rfl⟩,by kernel_rfl,⟨⟨rf,rf,rf,rf,rf,rf,rf,tv⟩,tv⟩,aZ (k:=dq R) rfl⟩
   ·rw[if_neg (ad6 h)]
    exact⟨_,_,⟨rfl,rfl⟩,by kernel_rfl,⟨⟨rf,rf,rf,rf,rf,rf,rf,tv⟩,tv⟩,aZ (k:=dq R) rfl⟩
  rw[nx,if_neg (by decide),if_neg (by decide),if_pos (by decide)]
  exact⟨_,_,⟨rfl,rfl⟩,by kernel_rfl,⟨⟨rf,rf,rf,rf,rf,rf,rf,tv⟩,tv⟩,aZ (k:=dq R) rfl⟩
  rw[nx,if_neg (by decide),if_neg (by decide),if_neg (by decide),if_pos (by decide)]
  refine⟨fun _=>⟨by simp,by simp⟩,[I 0],⟨rf,tv⟩,_,rfl,?_⟩
  exact⟨_,_,⟨rfl,rfl⟩,by kernel_rfl,⟨⟨rf,rf,rf,rf,rf,rf,rf,tv⟩,tv⟩,aZ (k:=dq R) rfl⟩
  iterate 3
   rw[nx,if_neg (by decide),if_neg (by decide),if_neg (by decide),if_neg (by decide),if_pos (by decide)]
   repeat first|refine⟨fun _=>o (by omega),?_⟩|refine⟨fun _=>oN (by omega),?_⟩|refine⟨fun _ h=>absurd h (by decide),?_⟩
   refine .inl ⟨_,fun _=>(aT n (p+3) 4 (by omega) (by omega)).ok,?_⟩
   repeat first|refine⟨fun _=>o (by omega),?_⟩|refine⟨fun _=>oN (by omega),?_⟩|refine⟨fun _ h=>absurd h (by decide),?_⟩
   obtain⟨x,hx⟩:∃x,dA[(1+pick n (p+3) 4).toNat]?=some x:=⟨_,ace (by show _<5;omega)⟩
   rw[hx]
   repeat first|refine g1 ?_|refine⟨fun _=>o (by omega),?_⟩
   refine .inl ⟨_,fun _=>(aT n (p+4) 3 (by omega) (by omega)).ok,?_⟩
   repeat first|refine g1 ?_|refine g3 ?_|refine⟨fun _=>o (by omega),?_⟩
   refine .inl ⟨_,fun _=>(aT n (p+5) 2 (by omega) (by omega)).ok,?_⟩
   repeat first|refine⟨fun _=>o (by omega),?_⟩|refine⟨fun _=>oN (by omega),?_⟩|refine⟨fun _ h=>absurd h (by decide),?_⟩
   refine .inl ⟨_,fun _=>(BO (1+pick n (p+3) 4) (1+pick n (p+5) 2) (1+pick n (p+1) 4) _ _ x hx (by omega) (by omega)).ok,?_⟩
   refine⟨by kernel_rfl,?_⟩
   exact⟨_,_,⟨rfl,rfl⟩,by kernel_rfl,⟨⟨rf,rf,rf,rf,rf,rf,rf,tv⟩,tv⟩,aZ (k:=dq R) rfl⟩
  rw[nx,if_neg (by decide),if_neg (by decide),if_neg (by decide),if_neg (by decide),if_neg (by decide),if_pos (by decide)]
  refine⟨fun _=>⟨by simp,by simp⟩,[I 0],⟨rf,tv⟩,_,rfl,?_⟩
  exact⟨_,_,⟨rfl,rfl⟩,by kernel_rfl,⟨⟨rf,rf,rf,rf,rf,rf,rf,tv⟩,tv⟩,aZ (k:=dq R) rfl⟩
  rw[nx,if_neg (by decide),if_neg (by decide),if_neg (by decide),if_neg (by decide),if_neg (by decide),if_neg (by decide)]
  repeat first|refine⟨fun _=>o (by omega),?_⟩|refine⟨fun _=>oN (by omega),?_⟩|refine⟨fun _ h=>absurd h (by decide),?_⟩
  refine .inl ⟨_,fun _=>(aT n (p+4) 9 (by omega) (by omega)).ok,?_⟩
  repeat first|refine⟨fun _=>o (by omega),?_⟩|refine⟨fun _=>oN (by omega),?_⟩|refine⟨fun _ h=>absurd h (by decide),?_⟩
  refine .inl ⟨[ax ⟨(R.sh+1).tmod 12*4294967296+pick n (p+4) 9,0,3⟩],rfl,⟨rf,rf,rf,tv⟩,(by simp;rfl),?_⟩
  refine .inl ⟨[aq ⟨0,1+pick n (p+1) 4,pick n (p+3) 5,3,[⟨(R.sh+1).tmod 12*4294967296+pick n (p+4) 9,0,3⟩]⟩],rfl,⟨rf,rf,rf,rf,rf,tv⟩,(by simp;rfl),?_⟩
  exact⟨_,_,⟨rfl,rfl⟩,by kernel_rfl,⟨⟨rf,rf,rf,rf,rf,rf,rf,tv⟩,tv⟩,aZ (k:=dq R) rfl⟩
 ·have hB:ZU n p=1+pick n (p+2) 4:=if_neg (beq_eq_false_iff_ne.1 h)
  rw[hB]at nx
  clear h
  refine⟨fun _=>o (by omega),?_⟩
  refine .inl ⟨_,fun _=>(aT n (p+3) 5 (by omega) (by omega)).ok,?_⟩
  refine⟨fun _=>o (by omega),?_⟩
  refine .inr (cl [0,1,2,3] (ZW (1+pick n (p+1) 4) (pick n (p+3) 5)) (by kernel_rfl) rfl rfl ?_)
  refine .inl ⟨_,fun _=>(aT n (p+4) _ bm.1 (by omega)).ok,?_⟩
  refine⟨fun _=>oN (by omega),?_⟩
  refine .inr (.inl ⟨[aq ⟨1+pick n (p+1) 4,1+pick n (p+2) 4,pick n (p+3) 5,ZV R n p,[]⟩],rfl,⟨rf,rf,rf,rf,DV.aL 3,tv⟩,(by simp;rfl),?_⟩)
  refine .inl ⟨_,fun _=>(aT n p 16 (by omega) (by omega)).ok,?_⟩
  have c12:=cT n (p+4) (m:=12) (by omega)
  have c9:=cT n (p+5) (m:=9) (by omega)
  have c4:=cT n (p+5) (m:=4) (by omega)
  have d4:=cT n (p+3) (m:=4) (by omega)
  have d2:=cT n (p+5) (m:=2) (by omega)
  have d9:=cT n (p+4) (m:=9) (by omega)
  have t12:0<=(R.sh+1).tmod 12/\(R.sh+1).tmod 12<12:=⟨Int.tmod_nonneg _ (by have:=hR.sh;omega),Int.tmod_lt_of_pos _ (by omega)⟩
  have oF:=hR.sh
  dsimp only at nx
  generalize hk:pick n p 16=k at*
  have hk:k=0\/k=1\/k=2\/k=3\/k=4\/k=5\/k=6\/k=7\/k=8\/k=9\/k=10\/k=11\/k=12\/k=13\/k=14\/k=15:=by omega
  rcases hk with rfl|rfl|rfl|rfl|rfl|rfl|rfl|rfl|rfl|rfl|rfl|rfl|rfl|rfl|rfl|rfl
  all_goals(repeat first|refine adN (fun h=>absurd h (by decide)) fun _=>?_|refine adN (fun _=>?_) fun h=>absurd h (by decide))
  iterate 4
   rw[nx,if_pos (by decide)]
   repeat first|refine⟨fun _=>o (by omega),?_⟩|refine⟨fun _=>oN (by omega),?_⟩|refine⟨fun _ h=>absurd h (by decide),?_⟩
   refine .inl ⟨_,fun _=>(aT n (p+4) 12 (by omega) (by omega)).ok,?_⟩
   repeat first|refine⟨fun _=>o (by omega),?_⟩|refine⟨fun _=>oN (by omega),?_⟩|refine⟨fun _ h=>absurd h (by decide),?_⟩
   refine .inl ⟨_,fun _=>(aT n (p+5) 9 (by omega) (by omega)).ok,?_⟩
   repeat first|refine⟨fun _=>o (by omega),?_⟩|refine⟨fun _=>oN (by omega),?_⟩|refine⟨fun _ h=>absurd h (by decide),?_⟩
   refine .inl ⟨[aq ⟨0,1+pick n (p+1) 4,pick n (p+3) 5,1+pick n (p+4) 12,[]⟩,aq ⟨0,1+pick n (p+2) 4,(pick n (p+3) 5+1).tmod 5,1+pick n (p+5) 9,[]⟩],rfl,⟨rf,rf,rf,rf,DV.aL 3,rf,rf,rf,rf,DV.aL 3,tv⟩,(by simp;exact⟨rfl,rfl⟩),?_⟩
   exact⟨_,_,⟨rfl,rfl⟩,by kernel_rfl,⟨⟨rf,rf,rf,rf,rf,rf,rf,tv⟩,tv⟩,aZ (k:=dq R) rfl⟩
  iterate 5
   rw[nx,if_neg (by decide),if_pos (by decide)]
   repeat first|refine⟨fun _=>o (by omega),?_⟩|refine⟨fun _=>oN (by omega),?_⟩|refine⟨fun _ h=>absurd h (by decide),?_⟩
   refine .inl ⟨_,fun _=>(aT n (p+5) 4 (by omega) (by omega)).ok,?_⟩
   repeat first|refine⟨fun _=>o (by omega),?_⟩|refine⟨fun _=>oN (by omega),?_⟩|refine⟨fun _ h=>absurd h (by decide),?_⟩
   refine .inr (cl [0,1,2,3] (ZW (1+pick n (p+2) 4) (DO n p)) (by kernel_rfl) rfl rfl ?_)
   refine adN (fun h=>?_) fun h=>?_
   ·have h:=ad5 h
    have bb:=YA (1+pick n (p+2) 4) (DO n p)
    have b6:=cT n (p+5) (m:=p6 R (1+pick n (p+2) 4) (DO n p)) (by omega)
    rw[if_pos h]
    repeat first|refine⟨fun _=>o (by omega),?_⟩|refine⟨fun _=>oN (by omega),?_⟩|refine⟨fun _ h=>absurd h (by decide),?_⟩
    refine .inr (cl [0,1,2,3] (ZW (1+pick n (p+2) 4) (DO n p)) (by kernel_rfl) rfl rfl ?_)
    refine .inl ⟨_,fun _=>(aT n (p+5) _ (by omega) (by omega)).ok,?_⟩
    repeat first|refine⟨fun _=>o (by omega),?_⟩|refine⟨fun _=>oN (by omega),?_⟩|refine⟨fun _ h=>absurd h (by decide),?_⟩
    refine .inl ⟨[aq ⟨1+pick n (p+2) 4,1+pick n (p+1) 4,DO n p,1+pick n (p+5) (p6 R (1+pick n (p+2) 4) (DO n p)),[]⟩],rfl,⟨rf,rf,rf,rf,DV.aL 3,tv⟩,(by simp;rfl),?_⟩
    refine .inr ⟨[aq ⟨1+pick n (p+2) 4,1+pick n (p+1) 4,DO n p,1+pick n (p+5) (p6 R (1+pick n (p+2) 4) (DO n p)),[]⟩],bV.refl _,bM (by simp),by simp,?_⟩
    refine⟨by kernel_rfl,?_⟩
    exact⟨_,_,⟨rfl,rfl⟩,by kernel_rfl,⟨⟨rf,rf,rf,rf,rf,rf,rf,tv⟩,tv⟩,aZ (k:=dq R) rfl⟩
   ·rw[if_neg (ad6 h)]
    exact⟨_,_,⟨rfl,rfl⟩,by kernel_rfl,⟨⟨rf,rf,rf,rf,rf,rf,rf,tv⟩,tv⟩,aZ (k:=dq R) rfl⟩
  rw[nx,if_neg (by decide),if_neg (by decide),if_pos (by decide)]
  exact⟨_,_,⟨rfl,rfl⟩,by kernel_rfl,⟨⟨rf,rf,rf,rf,rf,rf,rf,tv⟩,tv⟩,aZ (k:=dq R) rfl⟩
  rw[nx,if_neg (by decide),if_neg (by decide),if_neg (by decide),if_pos (by decide)]
  refine⟨fun _=>⟨by simp,by simp⟩,[I 0],⟨rf,tv⟩,_,rfl,?_⟩
  exact⟨_,_,⟨rfl,rfl⟩,by kernel_rfl,⟨⟨rf,rf,rf,rf,rf,rf,rf,tv⟩,tv⟩,aZ (k:=dq R) rfl⟩
  iterate 3
   rw[nx,if_neg (by decide),if_neg (by decide),if_neg (by decide),if_neg (by decide),if_pos (by decide)]
   repeat first|refine⟨fun _=>o (by omega),?_⟩|refine⟨fun _=>oN (by omega),?_⟩|refine⟨fun _ h=>absurd h (by decide),?_⟩
   refine .inl ⟨_,fun _=>(aT n (p+3) 4 (by omega) (by omega)).ok,?_⟩
   repeat first|refine⟨fun _=>o (by omega),?_⟩|refine⟨fun _=>oN (by omega),?_⟩|refine⟨fun _ h=>absurd h (by decide),?_⟩
   obtain⟨x,hx⟩:∃x,dA[(1+pick n (p+3) 4).toNat]?=some x:=⟨_,ace (by show _<5;omega)⟩
   rw[hx]
   repeat first|refine g1 ?_|refine⟨fun _=>o (by omega),?_⟩
   refine .inl ⟨_,fun _=>(aT n (p+4) 3 (by omega) (by omega)).ok,?_⟩
   repeat first|refine g1 ?_|refine g3 ?_|refine⟨fun _=>o (by omega),?_⟩
   refine .inl ⟨_,fun _=>(aT n (p+5) 2 (by omega) (by omega)).ok,?_⟩
   repeat first|refine⟨fun _=>o (by omega),?_⟩|refine⟨fun _=>oN (by omega),?_⟩|refine⟨fun _ h=>absurd h (by decide),?_⟩
   refine .inl ⟨_,fun _=>(BO (1+pick n (p+3) 4) (1+pick n (p+5) 2) (1+pick n (p+1) 4) _ _ x hx (by omega) (by omega)).ok,?_⟩
   refine⟨by kernel_rfl,?_⟩
   exact⟨_,_,⟨rfl,rfl⟩,by kernel_rfl,⟨⟨rf,rf,rf,rf,rf,rf,rf,tv⟩,tv⟩,aZ (k:=dq R) rfl⟩
  rw[nx,if_neg (by decide),if_neg (by decide),if_neg (by decide),if_neg (by decide),if_neg (by decide),if_pos (by decide)]
  refine⟨fun _=>⟨by simp,by simp⟩,[I 0],⟨rf,tv⟩,_,rfl,?_⟩
  exact⟨_,_,⟨rfl,rfl⟩,by kernel_rfl,⟨⟨rf,rf,rf,rf,rf,rf,rf,tv⟩,tv⟩,aZ (k:=dq R) rfl⟩
  rw[nx,if_neg (by decide),if_neg (by decide),if_neg (by decide),if_neg (by decide),if_neg (by decide),if_neg (by decide)]
  repeat first|refine⟨fun _=>o (by omega),?_⟩|refine⟨fun _=>oN (by omega),?_⟩|refine⟨fun _ h=>absurd h (by decide),?_⟩
  refine .inl ⟨_,fun _=>(aT n (p+4) 9 (by omega) (by omega)).ok,?_⟩
  repeat first|refine⟨fun _=>o (by omega),?_⟩|refine⟨fun _=>oN (by omega),?_⟩|refine⟨fun _ h=>absurd h (by decide),?_⟩
  refine .inl ⟨[ax ⟨(R.sh+1).tmod 12*4294967296+pick n (p+4) 9,0,3⟩],rfl,⟨rf,rf,rf,tv⟩,(by simp;rfl),?_⟩
  refine .inl ⟨[aq ⟨0,1+pick n (p+1) 4,pick n (p+3) 5,3,[⟨(R.sh+1).tmod 12*4294967296+pick n (p+4) 9,0,3⟩]⟩],rfl,⟨rf,rf,rf,rf,rf,tv⟩,(by simp;rfl),?_⟩
  exact⟨_,_,⟨rfl,rfl⟩,by kernel_rfl,⟨⟨rf,rf,rf,rf,rf,rf,rf,tv⟩,tv⟩,aZ (k:=dq R) rfl⟩
end Go.Proofs.YtfpebgpgabjieaaGreatDoor
