import Derived.Test.YtknnpcfhekkjjaaGreatDoorFM36
import Derived.Test.YtknnpcfhekkjjaaGreatDoorFM28
import Derived.Test.YtknnpcfhekkjjaaGreatDoorFM30
import Derived.Test.YtknnpcfhekkjjaaGreatDoorFM34
import Derived.Test.YtknnpcfhekkjjaaGreatDoorFM35
import Derived.Test.YtknnpcfhekkjjaaGreatDoorFM22
set_option linter.all false
namespace Go.Proofs.YtknnpcfhekkjjaaGreatDoor
set_option maxRecDepth 100000
set_option maxHeartbeats 8000000
section
open Go.TM
def cQ(R:RL)(a it:Int):Int:=b9 (b5 R.st (a,it))
def Ks(n:List Int)(p:Int):Int:=1+pick n (p+1) 4
def Ta(n:List Int)(p:Int):Int:=if 1+pick n (p+2) 4=Ks n p then 5 else 1+pick n (p+2) 4
def Tb(n:List Int)(p:Int):Int:=pick n (p+3) 5
def Uv(R:RL)(n:List Int)(p:Int):Int:=1+pick n (p+4) (if 1<cQ R (Ks n p) (Tb n p)then cQ R (Ks n p) (Tb n p)else 1)
def zu(n:List Int)(p:Int):Int:=(Tb n p+1+pick n (p+5) 4).tmod 5
def iX(a t kd fr to it n:Int)(ps:List Lt):dW:=⟨0,kd,a,t,-1,0,[⟨fr,to,it,n,ps⟩]⟩
def ey(R:RL)(n:List Int)(p:Int):dW:=
 let t:Int:=(R.sp.length:Int).tdiv 2
 let a:=Ks n p
 let b:=Ta n p
 let it:=Tb n p
 if pick n p 16<4 then⟨0,0,a,t,-1,0,[⟨0,a,it,1+pick n (p+4) 12,[]⟩,⟨0,b,(it+1).tmod 5,1+pick n (p+5) 9,[]⟩]⟩
 else if pick n p 16<9 then⟨0,2,a,t,-1,0,⟨a,b,it,Uv R n p,[]⟩::if 0<cQ R b (zu n p)then[⟨b,a,zu n p,1+pick n (p+5) (cQ R b (zu n p)),[]⟩]else[]⟩
 else if pick n p 16=9 then iX a t 3 a b it (Uv R n p) []
 else if pick n p 16=10 then iX a t 1 a 0 it (Uv R n p) []
 else if pick n p 16<14 then
  let r:=1+pick n (p+3) 4
  let fl:=bif r==1 then pick n (p+4) 3==0 else false
  let tm:=1+pick n (p+5) 2
  match dB[r.toNat]? with
  |some x=>⟨0,4,a,t,bif fl then -2-r else r,tm,rT a tm x.tk++rU a tm (bif fl then x.bk else x.gv)⟩
  |none=>iX a t 0 0 0 0 0 []
 else if pick n p 16=14 then iX a t 6 a 0 it (Uv R n p) []
 else iX a t 5 0 a it 3 [⟨(R.sh+1).tmod 12*4294967296+pick n (p+4) 9,0,3⟩]
theorem Qw(n:Int){m:Int}(hm:1<=m):0<=jr n m/\jr n m<m:=by
 have h1:=Int.tmod_lt_of_pos n (show 0<m by omega)
 have h2:=Int.lt_tmod_of_pos n (show 0<m by omega)
 unfold jr
 split<;>omega
theorem fk(l:List Int)(i:Int){m:Int}(hm:1<=m):0<=pick l i m/\pick l i m<m:=by
 unfold pick
 split
 ·omega
 split
 ·exact Qw _ hm
 ·omega
variable [bG]
theorem BQ(R:RL)(n:List Int)(p:Int)(hp:0<=p/\p<=1000)(hR:RG R):ar Tryz.prog 14 [.ptr 0 0,.dv (Ints n),.dv (I p)] 4 (dU R) 0 [cY (aP (ey R n p))] (dU R):=by
 have lp:(R.sp.map aP).length=R.sp.length:=abH ..
 have ai:=hR.st
 have Xt:∀a i,ar Tryz.prog 47 [.ptr 0 0,.dv (I a),.dv (I i)] 4 (dU R) 0 [.dv (I (cQ R a i))] (dU R):=fun a i=>LI R a i (by omega) (by have:=(hR.th (a,i)).2;omega)
 have Wx:∀a i,0<=cQ R a i/\cQ R a i<=4503599627370496:=fun a i=>C2 _
 have nx:ey R n p=ey R n p:=rfl
 conv at nx=>rhs;unfold ey
 refine cO Tryz.func14 rfl (by kernel_rfl) ?_
 have b1:=fk n (p+1) (m:=4) (by omega)
 have b2:=fk n (p+2) (m:=4) (by omega)
 have b3:=fk n (p+3) (m:=5) (by omega)
 have b0:=fk n p (m:=16) (by omega)
 have bt:0<=(R.sp.length:Int).tdiv 2/\(R.sp.length:Int).tdiv 2<=900000:=by rw[Int.tdiv_eq_ediv_of_nonneg (by omega)];have:=hR.sp;omega
 rw[<-lp]at nx bt
 refine⟨fun _ h=>(by cases h),fun _=>⟨by omega,by omega⟩,fun _=>⟨by omega,by omega⟩,?_⟩
 refine .inl ⟨_,fun _=>(bO n (p+1) 4 (by omega) (by omega)).ok,?_⟩
 refine⟨fun _=>⟨by omega,by omega⟩,fun _=>⟨by omega,by omega⟩,?_⟩
 refine .inl ⟨_,fun _=>(bO n (p+2) 4 (by omega) (by omega)).ok,?_⟩
 refine⟨fun _=>⟨by omega,by omega⟩,?_⟩
 have ba:=Wx (1+pick n (p+1) 4) (pick n (p+3) 5)
 have bm:1<=(if 1<cQ R (1+pick n (p+1) 4) (pick n (p+3) 5)then cQ R (1+pick n (p+1) 4) (pick n (p+3) 5)else 1)/\(if 1<cQ R (1+pick n (p+1) 4) (pick n (p+3) 5)then cQ R (1+pick n (p+1) 4) (pick n (p+3) 5)else 1)<=4503599627370496:=by split<;>omega
 have b4:=fk n (p+4) bm.1
 have o:∀{q:Int},p+1<=q/\q<=p+5->-9223372036854775808<=q/\q<=9223372036854775807:=by omega
 have oN:∀{q:Int},0<=q/\q<=4503599627370500->-9223372036854775808<=q/\q<=9223372036854775807:=by omega
 refine abG (fun h=>?_) fun h=>?_
 ·have hB:Ta n p=5:=if_pos (beq_iff_eq.1 h)
  rw[hB]at nx
  clear h
  refine⟨fun _=>o (by omega),?_⟩
  refine .inl ⟨_,fun _=>(bO n (p+3) 5 (by omega) (by omega)).ok,?_⟩
  refine⟨fun _=>o (by omega),?_⟩
  refine .inr (cl [0,1,2,3] (Xt (1+pick n (p+1) 4) (pick n (p+3) 5)) (by kernel_rfl) rfl rfl ?_)
  refine .inl ⟨_,fun _=>(bO n (p+4) _ bm.1 (by omega)).ok,?_⟩
  refine⟨fun _=>oN (by omega),?_⟩
  refine .inr (.inl ⟨[ak ⟨1+pick n (p+1) 4,5,pick n (p+3) 5,Uv R n p,[]⟩],rfl,⟨rf,rf,rf,rf,DV.aK 3,tv⟩,(by simp;rfl),?_⟩)
  refine .inl ⟨_,fun _=>(bO n p 16 (by omega) (by omega)).ok,?_⟩
  have c12:=fk n (p+4) (m:=12) (by omega)
  have c9:=fk n (p+5) (m:=9) (by omega)
  have c4:=fk n (p+5) (m:=4) (by omega)
  have d4:=fk n (p+3) (m:=4) (by omega)
  have d2:=fk n (p+5) (m:=2) (by omega)
  have d9:=fk n (p+4) (m:=9) (by omega)
  have t12:0<=(R.sh+1).tmod 12/\(R.sh+1).tmod 12<12:=⟨Int.tmod_nonneg _ (by have:=hR.sh;omega),Int.tmod_lt_of_pos _ (by omega)⟩
  have sa:=hR.sh
  dsimp only at nx
  generalize hk:pick n p 16=k at*
  have hk:k=0\/k=1\/k=2\/k=3\/k=4\/k=5\/k=6\/k=7\/k=8\/k=9\/k=10\/k=11\/k=12\/k=13\/k=14\/k=15:=by omega
  rcases hk with rfl|rfl|rfl|rfl|rfl|rfl|rfl|rfl|rfl|rfl|rfl|rfl|rfl|rfl|rfl|rfl
  all_goals(repeat first|refine abG (fun h=>absurd h (by decide)) fun _=>?_|refine abG (fun _=>?_) fun h=>absurd h (by decide))
  iterate 4
   rw[nx,if_pos (by decide)]
   repeat first|refine⟨fun _=>o (by omega),?_⟩|refine⟨fun _=>oN (by omega),?_⟩|refine⟨fun _ h=>absurd h (by decide),?_⟩
   refine .inl ⟨_,fun _=>(bO n (p+4) 12 (by omega) (by omega)).ok,?_⟩
   repeat first|refine⟨fun _=>o (by omega),?_⟩|refine⟨fun _=>oN (by omega),?_⟩|refine⟨fun _ h=>absurd h (by decide),?_⟩
   refine .inl ⟨_,fun _=>(bO n (p+5) 9 (by omega) (by omega)).ok,?_⟩
   repeat first|refine⟨fun _=>o (by omega),?_⟩|refine⟨fun _=>oN (by omega),?_⟩|refine⟨fun _ h=>absurd h (by decide),?_⟩
   refine .inl ⟨[ak ⟨0,1+pick n (p+1) 4,pick n (p+3) 5,1+pick n (p+4) 12,[]⟩,ak ⟨0,5,(pick n (p+3) 5+1).tmod 5,1+pick n (p+5) 9,[]⟩],rfl,⟨rf,rf,rf,rf,DV.aK 3,rf,rf,rf,rf,DV.aK 3,tv⟩,(by simp;exact⟨rfl,rfl⟩),?_⟩
   exact⟨_,_,⟨rfl,rfl⟩,by kernel_rfl,⟨⟨rf,rf,rf,rf,rf,rf,rf,tv⟩,tv⟩,bp (k:=dU R) rfl⟩
  iterate 5
   rw[nx,if_neg (by decide),if_pos (by decide)]
   repeat first|refine⟨fun _=>o (by omega),?_⟩|refine⟨fun _=>oN (by omega),?_⟩|refine⟨fun _ h=>absurd h (by decide),?_⟩
   refine .inl ⟨_,fun _=>(bO n (p+5) 4 (by omega) (by omega)).ok,?_⟩
   repeat first|refine⟨fun _=>o (by omega),?_⟩|refine⟨fun _=>oN (by omega),?_⟩|refine⟨fun _ h=>absurd h (by decide),?_⟩
   refine .inr (cl [0,1,2,3] (Xt (5) (zu n p)) (by kernel_rfl) rfl rfl ?_)
   refine abG (fun h=>?_) fun h=>?_
   ·have h:=abY h
    have bb:=Wx (5) (zu n p)
    have b6:=fk n (p+5) (m:=cQ R (5) (zu n p)) (by omega)
    rw[if_pos h]
    repeat first|refine⟨fun _=>o (by omega),?_⟩|refine⟨fun _=>oN (by omega),?_⟩|refine⟨fun _ h=>absurd h (by decide),?_⟩
    refine .inr (cl [0,1,2,3] (Xt (5) (zu n p)) (by kernel_rfl) rfl rfl ?_)
    refine .inl ⟨_,fun _=>(bO n (p+5) _ (by omega) (by omega)).ok,?_⟩
    repeat first|refine⟨fun _=>o (by omega),?_⟩|refine⟨fun _=>oN (by omega),?_⟩|refine⟨fun _ h=>absurd h (by decide),?_⟩
    refine .inl ⟨[ak ⟨5,1+pick n (p+1) 4,zu n p,1+pick n (p+5) (cQ R (5) (zu n p)),[]⟩],rfl,⟨rf,rf,rf,rf,DV.aK 3,tv⟩,(by simp;rfl),?_⟩
    refine .inr ⟨[ak ⟨5,1+pick n (p+1) 4,zu n p,1+pick n (p+5) (cQ R (5) (zu n p)),[]⟩],cd.refl _,bM (by simp),by simp,?_⟩
    refine⟨by kernel_rfl,?_⟩
    exact⟨_,_,⟨rfl,rfl⟩,by kernel_rfl,⟨⟨rf,rf,rf,rf,rf,rf,rf,tv⟩,tv⟩,bp (k:=dU R) rfl⟩
   ·rw[if_neg (abZ h)]
    exact⟨_,_,⟨rfl,rfl⟩,by kernel_rfl,⟨⟨rf,rf,rf,rf,rf,rf,rf,tv⟩,tv⟩,bp (k:=dU R) rfl⟩
  rw[nx,if_neg (by decide),if_neg (by decide),if_pos (by decide)]
  exact⟨_,_,⟨rfl,rfl⟩,by kernel_rfl,⟨⟨rf,rf,rf,rf,rf,rf,rf,tv⟩,tv⟩,bp (k:=dU R) rfl⟩
  rw[nx,if_neg (by decide),if_neg (by decide),if_neg (by decide),if_pos (by decide)]
  refine⟨fun _=>⟨by simp,by simp⟩,[I 0],⟨rf,tv⟩,_,rfl,?_⟩
  exact⟨_,_,⟨rfl,rfl⟩,by kernel_rfl,⟨⟨rf,rf,rf,rf,rf,rf,rf,tv⟩,tv⟩,bp (k:=dU R) rfl⟩
  iterate 3
   rw[nx,if_neg (by decide),if_neg (by decide),if_neg (by decide),if_neg (by decide),if_pos (by decide)]
   repeat first|refine⟨fun _=>o (by omega),?_⟩|refine⟨fun _=>oN (by omega),?_⟩|refine⟨fun _ h=>absurd h (by decide),?_⟩
   refine .inl ⟨_,fun _=>(bO n (p+3) 4 (by omega) (by omega)).ok,?_⟩
   repeat first|refine⟨fun _=>o (by omega),?_⟩|refine⟨fun _=>oN (by omega),?_⟩|refine⟨fun _ h=>absurd h (by decide),?_⟩
   obtain⟨x,hx⟩:∃x,dB[(1+pick n (p+3) 4).toNat]?=some x:=⟨_,aaj (by show _<5;omega)⟩
   rw[hx]
   repeat first|refine g1 ?_|refine⟨fun _=>o (by omega),?_⟩
   refine .inl ⟨_,fun _=>(bO n (p+4) 3 (by omega) (by omega)).ok,?_⟩
   repeat first|refine g1 ?_|refine g3 ?_|refine⟨fun _=>o (by omega),?_⟩
   refine .inl ⟨_,fun _=>(bO n (p+5) 2 (by omega) (by omega)).ok,?_⟩
   repeat first|refine⟨fun _=>o (by omega),?_⟩|refine⟨fun _=>oN (by omega),?_⟩|refine⟨fun _ h=>absurd h (by decide),?_⟩
   refine .inl ⟨_,fun _=>(BG (1+pick n (p+3) 4) (1+pick n (p+5) 2) (1+pick n (p+1) 4) _ _ x hx (by omega) (by omega)).ok,?_⟩
   refine⟨by kernel_rfl,?_⟩
   exact⟨_,_,⟨rfl,rfl⟩,by kernel_rfl,⟨⟨rf,rf,rf,rf,rf,rf,rf,tv⟩,tv⟩,bp (k:=dU R) rfl⟩
  rw[nx,if_neg (by decide),if_neg (by decide),if_neg (by decide),if_neg (by decide),if_neg (by decide),if_pos (by decide)]
  refine⟨fun _=>⟨by simp,by simp⟩,[I 0],⟨rf,tv⟩,_,rfl,?_⟩
  exact⟨_,_,⟨rfl,rfl⟩,by kernel_rfl,⟨⟨rf,rf,rf,rf,rf,rf,rf,tv⟩,tv⟩,bp (k:=dU R) rfl⟩
  rw[nx,if_neg (by decide),if_neg (by decide),if_neg (by decide),if_neg (by decide),if_neg (by decide),if_neg (by decide)]
  repeat first|refine⟨fun _=>o (by omega),?_⟩|refine⟨fun _=>oN (by omega),?_⟩|refine⟨fun _ h=>absurd h (by decide),?_⟩
  refine .inl ⟨_,fun _=>(bO n (p+4) 9 (by omega) (by omega)).ok,?_⟩
  repeat first|refine⟨fun _=>o (by omega),?_⟩|refine⟨fun _=>oN (by omega),?_⟩|refine⟨fun _ h=>absurd h (by decide),?_⟩
  refine .inl ⟨[aC ⟨(R.sh+1).tmod 12*4294967296+pick n (p+4) 9,0,3⟩],rfl,⟨rf,rf,rf,tv⟩,(by simp;rfl),?_⟩
  refine .inl ⟨[ak ⟨0,1+pick n (p+1) 4,pick n (p+3) 5,3,[⟨(R.sh+1).tmod 12*4294967296+pick n (p+4) 9,0,3⟩]⟩],rfl,⟨rf,rf,rf,rf,rf,tv⟩,(by simp;rfl),?_⟩
  exact⟨_,_,⟨rfl,rfl⟩,by kernel_rfl,⟨⟨rf,rf,rf,rf,rf,rf,rf,tv⟩,tv⟩,bp (k:=dU R) rfl⟩
 ·have hB:Ta n p=1+pick n (p+2) 4:=if_neg (beq_eq_false_iff_ne.1 h)
  rw[hB]at nx
  clear h
  refine⟨fun _=>o (by omega),?_⟩
  refine .inl ⟨_,fun _=>(bO n (p+3) 5 (by omega) (by omega)).ok,?_⟩
  refine⟨fun _=>o (by omega),?_⟩
  refine .inr (cl [0,1,2,3] (Xt (1+pick n (p+1) 4) (pick n (p+3) 5)) (by kernel_rfl) rfl rfl ?_)
  refine .inl ⟨_,fun _=>(bO n (p+4) _ bm.1 (by omega)).ok,?_⟩
  refine⟨fun _=>oN (by omega),?_⟩
  refine .inr (.inl ⟨[ak ⟨1+pick n (p+1) 4,1+pick n (p+2) 4,pick n (p+3) 5,Uv R n p,[]⟩],rfl,⟨rf,rf,rf,rf,DV.aK 3,tv⟩,(by simp;rfl),?_⟩)
  refine .inl ⟨_,fun _=>(bO n p 16 (by omega) (by omega)).ok,?_⟩
  have c12:=fk n (p+4) (m:=12) (by omega)
  have c9:=fk n (p+5) (m:=9) (by omega)
  have c4:=fk n (p+5) (m:=4) (by omega)
  have d4:=fk n (p+3) (m:=4) (by omega)
  have d2:=fk n (p+5) (m:=2) (by omega)
  have d9:=fk n (p+4) (m:=9) (by omega)
  have t12:0<=(R.sh+1).tmod 12/\(R.sh+1).tmod 12<12:=⟨Int.tmod_nonneg _ (by have:=hR.sh;omega),Int.tmod_lt_of_pos _ (by omega)⟩
  have sa:=hR.sh
  dsimp only at nx
  generalize hk:pick n p 16=k at*
  have hk:k=0\/k=1\/k=2\/k=3\/k=4\/k=5\/k=6\/k=7\/k=8\/k=9\/k=10\/k=11\/k=12\/k=13\/k=14\/k=15:=by omega
  rcases hk with rfl|rfl|rfl|rfl|rfl|rfl|rfl|rfl|rfl|rfl|rfl|rfl|rfl|rfl|rfl|rfl
  all_goals(repeat first|refine abG (fun h=>absurd h (by decide)) fun _=>?_|refine abG (fun _=>?_) fun h=>absurd h (by decide))
  iterate 4
   rw[nx,if_pos (by decide)]
   repeat first|refine⟨fun _=>o (by omega),?_⟩|refine⟨fun _=>oN (by omega),?_⟩|refine⟨fun _ h=>absurd h (by decide),?_⟩
   refine .inl ⟨_,fun _=>(bO n (p+4) 12 (by omega) (by omega)).ok,?_⟩
   repeat first|refine⟨fun _=>o (by omega),?_⟩|refine⟨fun _=>oN (by omega),?_⟩|refine⟨fun _ h=>absurd h (by decide),?_⟩
   refine .inl ⟨_,fun _=>(bO n (p+5) 9 (by omega) (by omega)).ok,?_⟩
   repeat first|refine⟨fun _=>o (by omega),?_⟩|refine⟨fun _=>oN (by omega),?_⟩|refine⟨fun _ h=>absurd h (by decide),?_⟩
   refine .inl ⟨[ak ⟨0,1+pick n (p+1) 4,pick n (p+3) 5,1+pick n (p+4) 12,[]⟩,ak ⟨0,1+pick n (p+2) 4,(pick n (p+3) 5+1).tmod 5,1+pick n (p+5) 9,[]⟩],rfl,⟨rf,rf,rf,rf,DV.aK 3,rf,rf,rf,rf,DV.aK 3,tv⟩,(by simp;exact⟨rfl,rfl⟩),?_⟩
   exact⟨_,_,⟨rfl,rfl⟩,by kernel_rfl,⟨⟨rf,rf,rf,rf,rf,rf,rf,tv⟩,tv⟩,bp (k:=dU R) rfl⟩
  iterate 5
   rw[nx,if_neg (by decide),if_pos (by decide)]
   repeat first|refine⟨fun _=>o (by omega),?_⟩|refine⟨fun _=>oN (by omega),?_⟩|refine⟨fun _ h=>absurd h (by decide),?_⟩
   refine .inl ⟨_,fun _=>(bO n (p+5) 4 (by omega) (by omega)).ok,?_⟩
   repeat first|refine⟨fun _=>o (by omega),?_⟩|refine⟨fun _=>oN (by omega),?_⟩|refine⟨fun _ h=>absurd h (by decide),?_⟩
   refine .inr (cl [0,1,2,3] (Xt (1+pick n (p+2) 4) (zu n p)) (by kernel_rfl) rfl rfl ?_)
   refine abG (fun h=>?_) fun h=>?_
   ·have h:=abY h
    have bb:=Wx (1+pick n (p+2) 4) (zu n p)
    have b6:=fk n (p+5) (m:=cQ R (1+pick n (p+2) 4) (zu n p)) (by omega)
    rw[if_pos h]
    repeat first|refine⟨fun _=>o (by omega),?_⟩|refine⟨fun _=>oN (by omega),?_⟩|refine⟨fun _ h=>absurd h (by decide),?_⟩
    refine .inr (cl [0,1,2,3] (Xt (1+pick n (p+2) 4) (zu n p)) (by kernel_rfl) rfl rfl ?_)
    refine .inl ⟨_,fun _=>(bO n (p+5) _ (by omega) (by omega)).ok,?_⟩
    repeat first|refine⟨fun _=>o (by omega),?_⟩|refine⟨fun _=>oN (by omega),?_⟩|refine⟨fun _ h=>absurd h (by decide),?_⟩
    refine .inl ⟨[ak ⟨1+pick n (p+2) 4,1+pick n (p+1) 4,zu n p,1+pick n (p+5) (cQ R (1+pick n (p+2) 4) (zu n p)),[]⟩],rfl,⟨rf,rf,rf,rf,DV.aK 3,tv⟩,(by simp;rfl),?_⟩
    refine .inr ⟨[ak ⟨1+pick n (p+2) 4,1+pick n (p+1) 4,zu n p,1+pick n (p+5) (cQ R (1+pick n (p+2) 4) (zu n p)),[]⟩],cd.refl _,bM (by simp),by simp,?_⟩
    refine⟨by kernel_rfl,?_⟩
    exact⟨_,_,⟨rfl,rfl⟩,by kernel_rfl,⟨⟨rf,rf,rf,rf,rf,rf,rf,tv⟩,tv⟩,bp (k:=dU R) rfl⟩
   ·rw[if_neg (abZ h)]
    exact⟨_,_,⟨rfl,rfl⟩,by kernel_rfl,⟨⟨rf,rf,rf,rf,rf,rf,rf,tv⟩,tv⟩,bp (k:=dU R) rfl⟩
  rw[nx,if_neg (by decide),if_neg (by decide),if_pos (by decide)]
  exact⟨_,_,⟨rfl,rfl⟩,by kernel_rfl,⟨⟨rf,rf,rf,rf,rf,rf,rf,tv⟩,tv⟩,bp (k:=dU R) rfl⟩
  rw[nx,if_neg (by decide),if_neg (by decide),if_neg (by decide),if_pos (by decide)]
  refine⟨fun _=>⟨by simp,by simp⟩,[I 0],⟨rf,tv⟩,_,rfl,?_⟩
  exact⟨_,_,⟨rfl,rfl⟩,by kernel_rfl,⟨⟨rf,rf,rf,rf,rf,rf,rf,tv⟩,tv⟩,bp (k:=dU R) rfl⟩
  iterate 3
   rw[nx,if_neg (by decide),if_neg (by decide),if_neg (by decide),if_neg (by decide),if_pos (by decide)]
   repeat first|refine⟨fun _=>o (by omega),?_⟩|refine⟨fun _=>oN (by omega),?_⟩|refine⟨fun _ h=>absurd h (by decide),?_⟩
   refine .inl ⟨_,fun _=>(bO n (p+3) 4 (by omega) (by omega)).ok,?_⟩
   repeat first|refine⟨fun _=>o (by omega),?_⟩|refine⟨fun _=>oN (by omega),?_⟩|refine⟨fun _ h=>absurd h (by decide),?_⟩
   obtain⟨x,hx⟩:∃x,dB[(1+pick n (p+3) 4).toNat]?=some x:=⟨_,aaj (by show _<5;omega)⟩
   rw[hx]
   repeat first|refine g1 ?_|refine⟨fun _=>o (by omega),?_⟩
   refine .inl ⟨_,fun _=>(bO n (p+4) 3 (by omega) (by omega)).ok,?_⟩
   repeat first|refine g1 ?_|refine g3 ?_|refine⟨fun _=>o (by omega),?_⟩
   refine .inl ⟨_,fun _=>(bO n (p+5) 2 (by omega) (by omega)).ok,?_⟩
   repeat first|refine⟨fun _=>o (by omega),?_⟩|refine⟨fun _=>oN (by omega),?_⟩|refine⟨fun _ h=>absurd h (by decide),?_⟩
   refine .inl ⟨_,fun _=>(BG (1+pick n (p+3) 4) (1+pick n (p+5) 2) (1+pick n (p+1) 4) _ _ x hx (by omega) (by omega)).ok,?_⟩
   refine⟨by kernel_rfl,?_⟩
   exact⟨_,_,⟨rfl,rfl⟩,by kernel_rfl,⟨⟨rf,rf,rf,rf,rf,rf,rf,tv⟩,tv⟩,bp (k:=dU R) rfl⟩
  rw[nx,if_neg (by decide),if_neg (by decide),if_neg (by decide),if_neg (by decide),if_neg (by decide),if_pos (by decide)]
  refine⟨fun _=>⟨by simp,by simp⟩,[I 0],⟨rf,tv⟩,_,rfl,?_⟩
  exact⟨_,_,⟨rfl,rfl⟩,by kernel_rfl,⟨⟨rf,rf,rf,rf,rf,rf,rf,tv⟩,tv⟩,bp (k:=dU R) rfl⟩
  rw[nx,if_neg (by decide),if_neg (by decide),if_neg (by decide),if_neg (by decide),if_neg (by decide),if_neg (by decide)]
  repeat first|refine⟨fun _=>o (by omega),?_⟩|refine⟨fun _=>oN (by omega),?_⟩|refine⟨fun _ h=>absurd h (by decide),?_⟩
  refine .inl ⟨_,fun _=>(bO n (p+4) 9 (by omega) (by omega)).ok,?_⟩
  repeat first|refine⟨fun _=>o (by omega),?_⟩|refine⟨fun _=>oN (by omega),?_⟩|refine⟨fun _ h=>absurd h (by decide),?_⟩
  refine .inl ⟨[aC ⟨(R.sh+1).tmod 12*4294967296+pick n (p+4) 9,0,3⟩],rfl,⟨rf,rf,rf,tv⟩,(by simp;rfl),?_⟩
  refine .inl ⟨[ak ⟨0,1+pick n (p+1) 4,pick n (p+3) 5,3,[⟨(R.sh+1).tmod 12*4294967296+pick n (p+4) 9,0,3⟩]⟩],rfl,⟨rf,rf,rf,rf,rf,tv⟩,(by simp;rfl),?_⟩
  exact⟨_,_,⟨rfl,rfl⟩,by kernel_rfl,⟨⟨rf,rf,rf,rf,rf,rf,rf,tv⟩,tv⟩,bp (k:=dU R) rfl⟩
end
end Go.Proofs.YtknnpcfhekkjjaaGreatDoor
