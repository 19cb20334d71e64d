import Derived.Test.YtpbiiigpphehbaaGreatDoorFM35
import Derived.Test.YtpbiiigpphehbaaGreatDoorFM41
import Derived.Test.YtpbiiigpphehbaaGreatDoorFM37
import Derived.Test.YtpbiiigpphehbaaGreatDoorFM28
import Derived.Test.YtpbiiigpphehbaaGreatDoorFM43
import Derived.Test.YtpbiiigpphehbaaGreatDoorFM42
set_option linter.all false
namespace Go.Proofs.YtpbiiigpphehbaaGreatDoor
set_option maxRecDepth 100000
set_option maxHeartbeats 8000000
section
open Go.TM
def DK(l:List dX)(i:Nat)(f:dX->dX):List dX:=l.set i (f (l.getD i m0))
def pT(s:dJ)(w y:Int):dJ:=
 if cV w 11=0 then { s with kind:=y }else if cV w 11=1 then { s with gl:=y }else if cV w 11=2 then { s with tick:=y }else if cV w 11=3 then { s with aD:=y }else if cV w 11=4 then { s with times:=y }
 else if cV w 11=5 then { s with mv:=DK s.mv (s.mv.length-1) fun m=>{ m with fr:=y } }else if cV w 11=6 then { s with mv:=DK s.mv 0 fun m=>{ m with to:=y } }
 else if cV w 11=7 then { s with mv:=DK s.mv (s.mv.length-1) fun m=>{ m with it:=y } }else if cV w 11=8 then { s with mv:=DK s.mv 0 fun m=>{ m with n:=y } }
 else if cV w 11=9 then { s with mv:=s.mv++[s.mv.getD 0 m0] }else { s with mv:=DK s.mv 0 fun m=>{ m with ps:=[⟨y,0,m.n⟩] } }
theorem getD_map{l:List dX}{i:Nat}(h:i<l.length):(l.map ak)[i]?=some (ak (l.getD i m0)):=by
 rw[abB,abE,aaa h];rfl
variable [bJ]
theorem zF{s:dJ}{i:Nat}{m:dX}:(DV.agg [I s.id,I s.kind,I s.gl,I s.tick,I s.aD,I s.times,oo (.aB 5 ((s.mv.map ak).set i (ak m)))]).Le (aC { s with mv:=s.mv.set i m }):=by
 rw[<-List.map_set];exact nY (s:={ s with mv:=s.mv.set i m })
theorem Gz(s:dJ)(w y:Int)(ck:s.mv≠[])(hl:s.mv.length<=1000):aO Tryz.prog 13 [aC s,I w,I y] [aC (pT s w y)]:=by
 have h1:=List.length_pos_iff.2 ck
 have lm:(s.mv.map ak).length=s.mv.length:=abz ..
 refine pO Tryz.func13 rfl (by kernel_rfl) rfl ?_
 refine .inr ⟨_,b7.refl _,bM (by simp;omega),by simp;omega,?_⟩
 refine aby (fun h=>?_) fun _=>?_
 ·have:=abQ h;simp at this;exact absurd this ck
 refine⟨fun _=>⟨by simp;omega,by simp;omega⟩,?_⟩
 refine .inl ⟨[I w],rfl,⟨rf,tv⟩,(by simp;rfl),?_⟩
 refine .inl ⟨_,fun _=>(bB [w] 0 11 (by omega) (by omega)).ok,?_⟩
 have hp:pick [w] 0 11=cV w 11:=rfl
 rw[hp]
 have hs:pT s w y=pT s w y:=rfl
 conv at hs=>rhs;unfold pT
 generalize cV w 11=k at*
 refine aby (fun h=>?_) fun h=>?_
 ·have h:k=0:=beq_iff_eq.1 h
  subst h
  rw[hs]
  exact⟨nY (s:={ s with kind:=y }),tv⟩
 have h0:k≠0:=beq_eq_false_iff_ne.1 h
 rw[if_neg h0]at hs
 refine aby (fun h=>?_) fun h=>?_
 ·have h:k=1:=beq_iff_eq.1 h
  subst h
  rw[hs]
  exact⟨nY (s:={ s with gl:=y }),tv⟩
 have h1:k≠1:=beq_eq_false_iff_ne.1 h
 rw[if_neg h1]at hs
 refine aby (fun h=>?_) fun h=>?_
 ·have h:k=2:=beq_iff_eq.1 h
  subst h
  rw[hs]
  exact⟨nY (s:={ s with tick:=y }),tv⟩
 have h2:k≠2:=beq_eq_false_iff_ne.1 h
 rw[if_neg h2]at hs
 refine aby (fun h=>?_) fun h=>?_
 ·have h:k=3:=beq_iff_eq.1 h
  subst h
  rw[hs]
  exact⟨nY (s:={ s with aD:=y }),tv⟩
 have h3:k≠3:=beq_eq_false_iff_ne.1 h
 rw[if_neg h3]at hs
 refine aby (fun h=>?_) fun h=>?_
 ·have h:k=4:=beq_iff_eq.1 h
  subst h
  rw[hs]
  exact⟨nY (s:={ s with times:=y }),tv⟩
 have h4:k≠4:=beq_eq_false_iff_ne.1 h
 rw[if_neg h4]at hs
 refine aby (fun h=>?_) fun h=>?_
 ·have h:k=5:=beq_iff_eq.1 h
  subst h
  rw[hs]
  have hi:s.mv.length-1<s.mv.length:=by omega
  have gi:=getD_map hi
  have ei:(((s.mv.map ak).length:Int)-1).toNat=s.mv.length-1:=by omega
  refine⟨fun _=>⟨by omega,by omega⟩,[I y],⟨rf,tv⟩,ak (s.mv.getD (s.mv.length-1) m0),by rw[ei];exact gi,?_⟩
  rw[ei]
  exact⟨zF (m:={ s.mv.getD (s.mv.length-1) m0 with fr:=y }),tv⟩
 have h5:k≠5:=beq_eq_false_iff_ne.1 h
 rw[if_neg h5]at hs
 refine aby (fun h=>?_) fun h=>?_
 ·have h:k=6:=beq_iff_eq.1 h
  subst h
  rw[hs]
  have hi:0<s.mv.length:=by omega
  have gi:=getD_map hi
  refine⟨fun _=>⟨by omega,by omega⟩,[I y],⟨rf,tv⟩,ak (s.mv.getD (0) m0),gi,?_⟩
  exact⟨zF (m:={ s.mv.getD (0) m0 with to:=y }),tv⟩
 have h6:k≠6:=beq_eq_false_iff_ne.1 h
 rw[if_neg h6]at hs
 refine aby (fun h=>?_) fun h=>?_
 ·have h:k=7:=beq_iff_eq.1 h
  subst h
  rw[hs]
  have hi:s.mv.length-1<s.mv.length:=by omega
  have gi:=getD_map hi
  have ei:(((s.mv.map ak).length:Int)-1).toNat=s.mv.length-1:=by omega
  refine⟨fun _=>⟨by omega,by omega⟩,[I y],⟨rf,tv⟩,ak (s.mv.getD (s.mv.length-1) m0),by rw[ei];exact gi,?_⟩
  rw[ei]
  exact⟨zF (m:={ s.mv.getD (s.mv.length-1) m0 with it:=y }),tv⟩
 have h7:k≠7:=beq_eq_false_iff_ne.1 h
 rw[if_neg h7]at hs
 refine aby (fun h=>?_) fun h=>?_
 ·have h:k=8:=beq_iff_eq.1 h
  subst h
  rw[hs]
  have hi:0<s.mv.length:=by omega
  have gi:=getD_map hi
  refine⟨fun _=>⟨by omega,by omega⟩,[I y],⟨rf,tv⟩,ak (s.mv.getD (0) m0),gi,?_⟩
  exact⟨zF (m:={ s.mv.getD (0) m0 with n:=y }),tv⟩
 have h8:k≠8:=beq_eq_false_iff_ne.1 h
 rw[if_neg h8]at hs
 refine aby (fun h=>?_) fun h=>?_
 ·have h:k=9:=beq_iff_eq.1 h
  subst h
  rw[hs]
  have gi:=getD_map (show 0<s.mv.length by omega)
  refine⟨fun _=>⟨by omega,by omega⟩,ak (s.mv.getD 0 m0),fun _=>gi,?_⟩
  refine .inl ⟨[ak (s.mv.getD 0 m0)],rfl,⟨rf,rf,rf,rf,rf,tv⟩,(by simp;rfl),?_⟩
  refine .inr ⟨[ak (s.mv.getD 0 m0)],b7.refl _,bM (by simp;omega),by simp;omega,?_⟩
  refine⟨by kernel_rfl,?_⟩
  have:=nY (s:={ s with mv:=s.mv++[s.mv.getD 0 m0] })
  rw[abS]at this
  exact⟨this,tv⟩
 have h9:k≠9:=beq_eq_false_iff_ne.1 h
 rw[if_neg h9]at hs
 rw[hs]
 have gi:=getD_map (show 0<s.mv.length by omega)
 refine⟨fun _=>⟨by omega,by omega⟩,ak (s.mv.getD 0 m0),fun _=>gi,?_⟩
 refine .inl ⟨[aF ⟨y,0,(s.mv.getD 0 m0).n⟩],rfl,⟨rf,rf,rf,tv⟩,(by simp;rfl),?_⟩
 refine⟨fun _=>⟨by omega,by omega⟩,[aS [⟨y,0,(s.mv.getD 0 m0).n⟩]],⟨rf,tv⟩,ak (s.mv.getD 0 m0),gi,?_⟩
 refine⟨by kernel_rfl,?_⟩
 exact⟨zF (m:={ s.mv.getD 0 m0 with ps:=[⟨y,0,(s.mv.getD 0 m0).n⟩] }),tv⟩
end
section
open Go.TM
def pU(R:RL)(a it:Int):Int:=bQ (cr R.st (a,it))
def nxA(n:List Int)(p:Int):Int:=1+pick n (p+1) 4
def nxB(n:List Int)(p:Int):Int:=if 1+pick n (p+2) 4=nxA n p then 5 else 1+pick n (p+2) 4
def nxI(n:List Int)(p:Int):Int:=pick n (p+3) 5
def Xn(R:RL)(n:List Int)(p:Int):Int:=1+pick n (p+4) (if 1<pU R (nxA n p) (nxI n p)then pU R (nxA n p) (nxI n p)else 1)
def DL(n:List Int)(p:Int):Int:=(nxI n p+1+pick n (p+5) 4).tmod 5
def u9(a t kd fr to it n:Int)(ps:List Lt):dJ:=⟨0,kd,a,t,-1,0,[⟨fr,to,it,n,ps⟩]⟩
def zG(R:RL)(n:List Int)(p:Int):dJ:=
 let t:Int:=(R.sp.length:Int).tdiv 2
 let a:=nxA n p
 let b:=nxB n p
 let it:=nxI n p
 if pick n p 16<4 then⟨0,0,a,t,-1,0,[⟨0,a,it,1+pick n (p+4) 12,[]⟩,⟨0,b,(it+1).tmod 5,1+pick n (p+5) 9,[]⟩]⟩
 else if pick n p 16<9 then⟨0,2,a,t,-1,0,⟨a,b,it,Xn R n p,[]⟩::if 0<pU R b (DL n p)then[⟨b,a,DL n p,1+pick n (p+5) (pU R b (DL n p)),[]⟩]else[]⟩
 else if pick n p 16=9 then u9 a t 3 a b it (Xn R n p) []
 else if pick n p 16=10 then u9 a t 1 a 0 it (Xn R n p) []
 else if pick n p 16<14 then
  let r:=1+pick n (p+3) 4
  let fl:=bif r==1 then pick n (p+4) 3==0 else false
  let tm:=1+pick n (p+5) 2
  match dT[r.toNat]? with
  |some x=>⟨0,4,a,t,bif fl then -2-r else r,tm,vS a tm x.tk++vT a tm (bif fl then x.bk else x.gv)⟩
  |none=>u9 a t 0 0 0 0 0 []
 else if pick n p 16=14 then u9 a t 6 a 0 it (Xn R n p) []
 else u9 a t 5 0 a it 3 [⟨(R.sh+1).tmod 12*4294967296+pick n (p+4) 9,0,3⟩]
theorem QG(n:Int){m:Int}(hm:1<=m):0<=cV n m/\cV n m<m:=by
 have h1:=Int.tmod_lt_of_pos n (show 0<m by omega)
 have h2:=Int.lt_tmod_of_pos n (show 0<m by omega)
 unfold cV
 split<;>omega
theorem fc(l:List Int)(i:Int){m:Int}(hm:1<=m):0<=pick l i m/\pick l i m<m:=by
 unfold pick
 split
 ·omega
 split
 ·exact QG _ hm
 ·omega
variable [bJ]
theorem MB(R:RL)(n:List Int)(p:Int)(hp:0<=p/\p<=1000)(hR:RG R):aq Tryz.prog 6 [.ptr 0 0,.dv (Ints n),.dv (I p)] 4 (dE R) 0 [cJ (aC (zG R n p))] (dE R):=by
 have lp:(R.sp.map aC).length=R.sp.length:=abz ..
 have aj:=hR.st
 have Xo:∀a i,aq Tryz.prog 19 [.ptr 0 0,.dv (I a),.dv (I i)] 4 (dE R) 0 [.dv (I (pU R a i))] (dE R):=fun a i=>BB R a i (by omega) (by have:=(hR.wG (a,i)).2;omega)
 have WA:∀a i,0<=pU R a i/\pU R a i<=4503599627370496:=fun a i=>Il _
 have nx:zG R n p=zG R n p:=rfl
 conv at nx=>rhs;unfold zG
 refine cO Tryz.func6 rfl (by kernel_rfl) ?_
 have b1:=fc n (p+1) (m:=4) (by omega)
 have b2:=fc n (p+2) (m:=4) (by omega)
 have b3:=fc n (p+3) (m:=5) (by omega)
 have b0:=fc n p (m:=16) (by omega)
 have bt:0<=(R.sp.length:Int).tdiv 2/\(R.sp.length:Int).tdiv 2<=900000:=by rw[Int.tdiv_eq_ediv_of_nonneg (by omega)];have:=hR.sp;omega
 rw[<-lp]at nx bt
 refine⟨fun _ h=>(by cases h),fun _=>⟨by omega,by omega⟩,fun _=>⟨by omega,by omega⟩,?_⟩
 refine .inl ⟨_,fun _=>(bB n (p+1) 4 (by omega) (by omega)).ok,?_⟩
 refine⟨fun _=>⟨by omega,by omega⟩,fun _=>⟨by omega,by omega⟩,?_⟩
 refine .inl ⟨_,fun _=>(bB n (p+2) 4 (by omega) (by omega)).ok,?_⟩
 refine⟨fun _=>⟨by omega,by omega⟩,?_⟩
 have ba:=WA (1+pick n (p+1) 4) (pick n (p+3) 5)
 have bm:1<=(if 1<pU R (1+pick n (p+1) 4) (pick n (p+3) 5)then pU R (1+pick n (p+1) 4) (pick n (p+3) 5)else 1)/\(if 1<pU R (1+pick n (p+1) 4) (pick n (p+3) 5)then pU R (1+pick n (p+1) 4) (pick n (p+3) 5)else 1)<=4503599627370496:=by split<;>omega
 have b4:=fc n (p+4) bm.1
 have o:∀{q:Int},p+1<=q/\q<=p+5->-9223372036854775808<=q/\q<=9223372036854775807:=by omega
 have oN:∀{q:Int},0<=q/\q<=4503599627370500->-9223372036854775808<=q/\q<=9223372036854775807:=by omega
 refine aby (fun h=>?_) fun h=>?_
 ·have hB:nxB n p=5:=if_pos (beq_iff_eq.1 h)
  rw[hB]at nx
  clear h
  refine⟨fun _=>o (by omega),?_⟩
  refine .inl ⟨_,fun _=>(bB n (p+3) 5 (by omega) (by omega)).ok,?_⟩
  refine⟨fun _=>o (by omega),?_⟩
  refine .inr (cl [0,1,2,3] (Xo (1+pick n (p+1) 4) (pick n (p+3) 5)) (by kernel_rfl) rfl rfl ?_)
  refine .inl ⟨_,fun _=>(bB n (p+4) _ bm.1 (by omega)).ok,?_⟩
  refine⟨fun _=>oN (by omega),?_⟩
  refine .inr (.inl ⟨[ak ⟨1+pick n (p+1) 4,5,pick n (p+3) 5,Xn R n p,[]⟩],rfl,⟨rf,rf,rf,rf,DV.aL 3,tv⟩,(by simp;rfl),?_⟩)
  refine .inl ⟨_,fun _=>(bB n p 16 (by omega) (by omega)).ok,?_⟩
  have c12:=fc n (p+4) (m:=12) (by omega)
  have c9:=fc n (p+5) (m:=9) (by omega)
  have c4:=fc n (p+5) (m:=4) (by omega)
  have d4:=fc n (p+3) (m:=4) (by omega)
  have d2:=fc n (p+5) (m:=2) (by omega)
  have d9:=fc n (p+4) (m:=9) (by omega)
  have t12:0<=(R.sh+1).tmod 12/\(R.sh+1).tmod 12<12:=⟨Int.tmod_nonneg _ (by have:=hR.sh;omega),Int.tmod_lt_of_pos _ (by omega)⟩
  have wV:=hR.sh
  dsimp only at nx
  generalize hk:pick n p 16=k at*
  have hk:k=0\/k=1\/k=2\/k=3\/k=4\/k=5\/k=6\/k=7\/k=8\/k=9\/k=10\/k=11\/k=12\/k=13\/k=14\/k=15:=by omega
  rcases hk with rfl|rfl|rfl|rfl|rfl|rfl|rfl|rfl|rfl|rfl|rfl|rfl|rfl|rfl|rfl|rfl
  all_goals(repeat first|refine aby (fun h=>absurd h (by decide)) fun _=>?_|refine aby (fun _=>?_) fun h=>absurd h (by decide))
  iterate 4
   rw[nx,if_pos (by decide)]
   repeat first|refine⟨fun _=>o (by omega),?_⟩|refine⟨fun _=>oN (by omega),?_⟩|refine⟨fun _ h=>absurd h (by decide),?_⟩
   refine .inl ⟨_,fun _=>(bB n (p+4) 12 (by omega) (by omega)).ok,?_⟩
   repeat first|refine⟨fun _=>o (by omega),?_⟩|refine⟨fun _=>oN (by omega),?_⟩|refine⟨fun _ h=>absurd h (by decide),?_⟩
   refine .inl ⟨_,fun _=>(bB n (p+5) 9 (by omega) (by omega)).ok,?_⟩
   repeat first|refine⟨fun _=>o (by omega),?_⟩|refine⟨fun _=>oN (by omega),?_⟩|refine⟨fun _ h=>absurd h (by decide),?_⟩
   refine .inl ⟨[ak ⟨0,1+pick n (p+1) 4,pick n (p+3) 5,1+pick n (p+4) 12,[]⟩,ak ⟨0,5,(pick n (p+3) 5+1).tmod 5,1+pick n (p+5) 9,[]⟩],rfl,⟨rf,rf,rf,rf,DV.aL 3,rf,rf,rf,rf,DV.aL 3,tv⟩,(by simp;exact⟨rfl,rfl⟩),?_⟩
   exact⟨_,_,⟨rfl,rfl⟩,by kernel_rfl,⟨⟨rf,rf,rf,rf,rf,rf,rf,tv⟩,tv⟩,bl (k:=dE R) rfl⟩
  iterate 5
   rw[nx,if_neg (by decide),if_pos (by decide)]
   repeat first|refine⟨fun _=>o (by omega),?_⟩|refine⟨fun _=>oN (by omega),?_⟩|refine⟨fun _ h=>absurd h (by decide),?_⟩
   refine .inl ⟨_,fun _=>(bB n (p+5) 4 (by omega) (by omega)).ok,?_⟩
   repeat first|refine⟨fun _=>o (by omega),?_⟩|refine⟨fun _=>oN (by omega),?_⟩|refine⟨fun _ h=>absurd h (by decide),?_⟩
   refine .inr (cl [0,1,2,3] (Xo (5) (DL n p)) (by kernel_rfl) rfl rfl ?_)
   refine aby (fun h=>?_) fun h=>?_
   ·have h:=abQ h
    have bb:=WA (5) (DL n p)
    have b6:=fc n (p+5) (m:=pU R (5) (DL n p)) (by omega)
    rw[if_pos h]
    repeat first|refine⟨fun _=>o (by omega),?_⟩|refine⟨fun _=>oN (by omega),?_⟩|refine⟨fun _ h=>absurd h (by decide),?_⟩
    refine .inr (cl [0,1,2,3] (Xo (5) (DL n p)) (by kernel_rfl) rfl rfl ?_)
    refine .inl ⟨_,fun _=>(bB n (p+5) _ (by omega) (by omega)).ok,?_⟩
    repeat first|refine⟨fun _=>o (by omega),?_⟩|refine⟨fun _=>oN (by omega),?_⟩|refine⟨fun _ h=>absurd h (by decide),?_⟩
    refine .inl ⟨[ak ⟨5,1+pick n (p+1) 4,DL n p,1+pick n (p+5) (pU R (5) (DL n p)),[]⟩],rfl,⟨rf,rf,rf,rf,DV.aL 3,tv⟩,(by simp;rfl),?_⟩
    refine .inr ⟨[ak ⟨5,1+pick n (p+1) 4,DL n p,1+pick n (p+5) (pU R (5) (DL n p)),[]⟩],b7.refl _,bM (by simp),by simp,?_⟩
    refine⟨by kernel_rfl,?_⟩
    exact⟨_,_,⟨rfl,rfl⟩,by kernel_rfl,⟨⟨rf,rf,rf,rf,rf,rf,rf,tv⟩,tv⟩,bl (k:=dE R) rfl⟩
   ·rw[if_neg (abR h)]
    exact⟨_,_,⟨rfl,rfl⟩,by kernel_rfl,⟨⟨rf,rf,rf,rf,rf,rf,rf,tv⟩,tv⟩,bl (k:=dE R) rfl⟩
  rw[nx,if_neg (by decide),if_neg (by decide),if_pos (by decide)]
  exact⟨_,_,⟨rfl,rfl⟩,by kernel_rfl,⟨⟨rf,rf,rf,rf,rf,rf,rf,tv⟩,tv⟩,bl (k:=dE R) rfl⟩
  rw[nx,if_neg (by decide),if_neg (by decide),if_neg (by decide),if_pos (by decide)]
  refine⟨fun _=>⟨by simp,by simp⟩,[I 0],⟨rf,tv⟩,_,rfl,?_⟩
  exact⟨_,_,⟨rfl,rfl⟩,by kernel_rfl,⟨⟨rf,rf,rf,rf,rf,rf,rf,tv⟩,tv⟩,bl (k:=dE R) rfl⟩
  iterate 3
   rw[nx,if_neg (by decide),if_neg (by decide),if_neg (by decide),if_neg (by decide),if_pos (by decide)]
   repeat first|refine⟨fun _=>o (by omega),?_⟩|refine⟨fun _=>oN (by omega),?_⟩|refine⟨fun _ h=>absurd h (by decide),?_⟩
   refine .inl ⟨_,fun _=>(bB n (p+3) 4 (by omega) (by omega)).ok,?_⟩
   repeat first|refine⟨fun _=>o (by omega),?_⟩|refine⟨fun _=>oN (by omega),?_⟩|refine⟨fun _ h=>absurd h (by decide),?_⟩
   obtain⟨x,hx⟩:∃x,dT[(1+pick n (p+3) 4).toNat]?=some x:=⟨_,aaa (by show _<5;omega)⟩
   rw[hx]
   repeat first|refine g1 ?_|refine⟨fun _=>o (by omega),?_⟩
   refine .inl ⟨_,fun _=>(bB n (p+4) 3 (by omega) (by omega)).ok,?_⟩
   repeat first|refine g1 ?_|refine g3 ?_|refine⟨fun _=>o (by omega),?_⟩
   refine .inl ⟨_,fun _=>(bB n (p+5) 2 (by omega) (by omega)).ok,?_⟩
   repeat first|refine⟨fun _=>o (by omega),?_⟩|refine⟨fun _=>oN (by omega),?_⟩|refine⟨fun _ h=>absurd h (by decide),?_⟩
   refine .inl ⟨_,fun _=>(BJ (1+pick n (p+3) 4) (1+pick n (p+5) 2) (1+pick n (p+1) 4) _ _ x hx (by omega) (by omega)).ok,?_⟩
   refine⟨by kernel_rfl,?_⟩
   exact⟨_,_,⟨rfl,rfl⟩,by kernel_rfl,⟨⟨rf,rf,rf,rf,rf,rf,rf,tv⟩,tv⟩,bl (k:=dE R) rfl⟩
  rw[nx,if_neg (by decide),if_neg (by decide),if_neg (by decide),if_neg (by decide),if_neg (by decide),if_pos (by decide)]
  refine⟨fun _=>⟨by simp,by simp⟩,[I 0],⟨rf,tv⟩,_,rfl,?_⟩
  exact⟨_,_,⟨rfl,rfl⟩,by kernel_rfl,⟨⟨rf,rf,rf,rf,rf,rf,rf,tv⟩,tv⟩,bl (k:=dE R) rfl⟩
  rw[nx,if_neg (by decide),if_neg (by decide),if_neg (by decide),if_neg (by decide),if_neg (by decide),if_neg (by decide)]
  repeat first|refine⟨fun _=>o (by omega),?_⟩|refine⟨fun _=>oN (by omega),?_⟩|refine⟨fun _ h=>absurd h (by decide),?_⟩
  refine .inl ⟨_,fun _=>(bB n (p+4) 9 (by omega) (by omega)).ok,?_⟩
  repeat first|refine⟨fun _=>o (by omega),?_⟩|refine⟨fun _=>oN (by omega),?_⟩|refine⟨fun _ h=>absurd h (by decide),?_⟩
  refine .inl ⟨[aF ⟨(R.sh+1).tmod 12*4294967296+pick n (p+4) 9,0,3⟩],rfl,⟨rf,rf,rf,tv⟩,(by simp;rfl),?_⟩
  refine .inl ⟨[ak ⟨0,1+pick n (p+1) 4,pick n (p+3) 5,3,[⟨(R.sh+1).tmod 12*4294967296+pick n (p+4) 9,0,3⟩]⟩],rfl,⟨rf,rf,rf,rf,rf,tv⟩,(by simp;rfl),?_⟩
  exact⟨_,_,⟨rfl,rfl⟩,by kernel_rfl,⟨⟨rf,rf,rf,rf,rf,rf,rf,tv⟩,tv⟩,bl (k:=dE R) rfl⟩
 ·have hB:nxB n p=1+pick n (p+2) 4:=if_neg (beq_eq_false_iff_ne.1 h)
  rw[hB]at nx
  clear h
  refine⟨fun _=>o (by omega),?_⟩
  refine .inl ⟨_,fun _=>(bB n (p+3) 5 (by omega) (by omega)).ok,?_⟩
  refine⟨fun _=>o (by omega),?_⟩
  refine .inr (cl [0,1,2,3] (Xo (1+pick n (p+1) 4) (pick n (p+3) 5)) (by kernel_rfl) rfl rfl ?_)
  refine .inl ⟨_,fun _=>(bB n (p+4) _ bm.1 (by omega)).ok,?_⟩
  refine⟨fun _=>oN (by omega),?_⟩
  refine .inr (.inl ⟨[ak ⟨1+pick n (p+1) 4,1+pick n (p+2) 4,pick n (p+3) 5,Xn R n p,[]⟩],rfl,⟨rf,rf,rf,rf,DV.aL 3,tv⟩,(by simp;rfl),?_⟩)
  refine .inl ⟨_,fun _=>(bB n p 16 (by omega) (by omega)).ok,?_⟩
  have c12:=fc n (p+4) (m:=12) (by omega)
  have c9:=fc n (p+5) (m:=9) (by omega)
  have c4:=fc n (p+5) (m:=4) (by omega)
  have d4:=fc n (p+3) (m:=4) (by omega)
  have d2:=fc n (p+5) (m:=2) (by omega)
  have d9:=fc n (p+4) (m:=9) (by omega)
  have t12:0<=(R.sh+1).tmod 12/\(R.sh+1).tmod 12<12:=⟨Int.tmod_nonneg _ (by have:=hR.sh;omega),Int.tmod_lt_of_pos _ (by omega)⟩
  have wV:=hR.sh
  dsimp only at nx
  generalize hk:pick n p 16=k at*
  have hk:k=0\/k=1\/k=2\/k=3\/k=4\/k=5\/k=6\/k=7\/k=8\/k=9\/k=10\/k=11\/k=12\/k=13\/k=14\/k=15:=by omega
  rcases hk with rfl|rfl|rfl|rfl|rfl|rfl|rfl|rfl|rfl|rfl|rfl|rfl|rfl|rfl|rfl|rfl
  all_goals(repeat first|refine aby (fun h=>absurd h (by decide)) fun _=>?_|refine aby (fun _=>?_) fun h=>absurd h (by decide))
  iterate 4
   rw[nx,if_pos (by decide)]
   repeat first|refine⟨fun _=>o (by omega),?_⟩|refine⟨fun _=>oN (by omega),?_⟩|refine⟨fun _ h=>absurd h (by decide),?_⟩
   refine .inl ⟨_,fun _=>(bB n (p+4) 12 (by omega) (by omega)).ok,?_⟩
   repeat first|refine⟨fun _=>o (by omega),?_⟩|refine⟨fun _=>oN (by omega),?_⟩|refine⟨fun _ h=>absurd h (by decide),?_⟩
   refine .inl ⟨_,fun _=>(bB n (p+5) 9 (by omega) (by omega)).ok,?_⟩
   repeat first|refine⟨fun _=>o (by omega),?_⟩|refine⟨fun _=>oN (by omega),?_⟩|refine⟨fun _ h=>absurd h (by decide),?_⟩
   refine .inl ⟨[ak ⟨0,1+pick n (p+1) 4,pick n (p+3) 5,1+pick n (p+4) 12,[]⟩,ak ⟨0,1+pick n (p+2) 4,(pick n (p+3) 5+1).tmod 5,1+pick n (p+5) 9,[]⟩],rfl,⟨rf,rf,rf,rf,DV.aL 3,rf,rf,rf,rf,DV.aL 3,tv⟩,(by simp;exact⟨rfl,rfl⟩),?_⟩
   exact⟨_,_,⟨rfl,rfl⟩,by kernel_rfl,⟨⟨rf,rf,rf,rf,rf,rf,rf,tv⟩,tv⟩,bl (k:=dE R) rfl⟩
  iterate 5
   rw[nx,if_neg (by decide),if_pos (by decide)]
   repeat first|refine⟨fun _=>o (by omega),?_⟩|refine⟨fun _=>oN (by omega),?_⟩|refine⟨fun _ h=>absurd h (by decide),?_⟩
   refine .inl ⟨_,fun _=>(bB n (p+5) 4 (by omega) (by omega)).ok,?_⟩
   repeat first|refine⟨fun _=>o (by omega),?_⟩|refine⟨fun _=>oN (by omega),?_⟩|refine⟨fun _ h=>absurd h (by decide),?_⟩
   refine .inr (cl [0,1,2,3] (Xo (1+pick n (p+2) 4) (DL n p)) (by kernel_rfl) rfl rfl ?_)
   refine aby (fun h=>?_) fun h=>?_
   ·have h:=abQ h
    have bb:=WA (1+pick n (p+2) 4) (DL n p)
    have b6:=fc n (p+5) (m:=pU R (1+pick n (p+2) 4) (DL n p)) (by omega)
    rw[if_pos h]
    repeat first|refine⟨fun _=>o (by omega),?_⟩|refine⟨fun _=>oN (by omega),?_⟩|refine⟨fun _ h=>absurd h (by decide),?_⟩
    refine .inr (cl [0,1,2,3] (Xo (1+pick n (p+2) 4) (DL n p)) (by kernel_rfl) rfl rfl ?_)
    refine .inl ⟨_,fun _=>(bB n (p+5) _ (by omega) (by omega)).ok,?_⟩
    repeat first|refine⟨fun _=>o (by omega),?_⟩|refine⟨fun _=>oN (by omega),?_⟩|refine⟨fun _ h=>absurd h (by decide),?_⟩
    refine .inl ⟨[ak ⟨1+pick n (p+2) 4,1+pick n (p+1) 4,DL n p,1+pick n (p+5) (pU R (1+pick n (p+2) 4) (DL n p)),[]⟩],rfl,⟨rf,rf,rf,rf,DV.aL 3,tv⟩,(by simp;rfl),?_⟩
    refine .inr ⟨[ak ⟨1+pick n (p+2) 4,1+pick n (p+1) 4,DL n p,1+pick n (p+5) (pU R (1+pick n (p+2) 4) (DL n p)),[]⟩],b7.refl _,bM (by simp),by simp,?_⟩
    refine⟨by kernel_rfl,?_⟩
    exact⟨_,_,⟨rfl,rfl⟩,by kernel_rfl,⟨⟨rf,rf,rf,rf,rf,rf,rf,tv⟩,tv⟩,bl (k:=dE R) rfl⟩
   ·rw[if_neg (abR h)]
    exact⟨_,_,⟨rfl,rfl⟩,by kernel_rfl,⟨⟨rf,rf,rf,rf,rf,rf,rf,tv⟩,tv⟩,bl (k:=dE R) rfl⟩
  rw[nx,if_neg (by decide),if_neg (by decide),if_pos (by decide)]
  exact⟨_,_,⟨rfl,rfl⟩,by kernel_rfl,⟨⟨rf,rf,rf,rf,rf,rf,rf,tv⟩,tv⟩,bl (k:=dE R) rfl⟩
  rw[nx,if_neg (by decide),if_neg (by decide),if_neg (by decide),if_pos (by decide)]
  refine⟨fun _=>⟨by simp,by simp⟩,[I 0],⟨rf,tv⟩,_,rfl,?_⟩
  exact⟨_,_,⟨rfl,rfl⟩,by kernel_rfl,⟨⟨rf,rf,rf,rf,rf,rf,rf,tv⟩,tv⟩,bl (k:=dE R) rfl⟩
  iterate 3
   rw[nx,if_neg (by decide),if_neg (by decide),if_neg (by decide),if_neg (by decide),if_pos (by decide)]
   repeat first|refine⟨fun _=>o (by omega),?_⟩|refine⟨fun _=>oN (by omega),?_⟩|refine⟨fun _ h=>absurd h (by decide),?_⟩
   refine .inl ⟨_,fun _=>(bB n (p+3) 4 (by omega) (by omega)).ok,?_⟩
   repeat first|refine⟨fun _=>o (by omega),?_⟩|refine⟨fun _=>oN (by omega),?_⟩|refine⟨fun _ h=>absurd h (by decide),?_⟩
   obtain⟨x,hx⟩:∃x,dT[(1+pick n (p+3) 4).toNat]?=some x:=⟨_,aaa (by show _<5;omega)⟩
   rw[hx]
   repeat first|refine g1 ?_|refine⟨fun _=>o (by omega),?_⟩
   refine .inl ⟨_,fun _=>(bB n (p+4) 3 (by omega) (by omega)).ok,?_⟩
   repeat first|refine g1 ?_|refine g3 ?_|refine⟨fun _=>o (by omega),?_⟩
   refine .inl ⟨_,fun _=>(bB n (p+5) 2 (by omega) (by omega)).ok,?_⟩
   repeat first|refine⟨fun _=>o (by omega),?_⟩|refine⟨fun _=>oN (by omega),?_⟩|refine⟨fun _ h=>absurd h (by decide),?_⟩
   refine .inl ⟨_,fun _=>(BJ (1+pick n (p+3) 4) (1+pick n (p+5) 2) (1+pick n (p+1) 4) _ _ x hx (by omega) (by omega)).ok,?_⟩
   refine⟨by kernel_rfl,?_⟩
   exact⟨_,_,⟨rfl,rfl⟩,by kernel_rfl,⟨⟨rf,rf,rf,rf,rf,rf,rf,tv⟩,tv⟩,bl (k:=dE R) rfl⟩
  rw[nx,if_neg (by decide),if_neg (by decide),if_neg (by decide),if_neg (by decide),if_neg (by decide),if_pos (by decide)]
  refine⟨fun _=>⟨by simp,by simp⟩,[I 0],⟨rf,tv⟩,_,rfl,?_⟩
  exact⟨_,_,⟨rfl,rfl⟩,by kernel_rfl,⟨⟨rf,rf,rf,rf,rf,rf,rf,tv⟩,tv⟩,bl (k:=dE R) rfl⟩
  rw[nx,if_neg (by decide),if_neg (by decide),if_neg (by decide),if_neg (by decide),if_neg (by decide),if_neg (by decide)]
  repeat first|refine⟨fun _=>o (by omega),?_⟩|refine⟨fun _=>oN (by omega),?_⟩|refine⟨fun _ h=>absurd h (by decide),?_⟩
  refine .inl ⟨_,fun _=>(bB n (p+4) 9 (by omega) (by omega)).ok,?_⟩
  repeat first|refine⟨fun _=>o (by omega),?_⟩|refine⟨fun _=>oN (by omega),?_⟩|refine⟨fun _ h=>absurd h (by decide),?_⟩
  refine .inl ⟨[aF ⟨(R.sh+1).tmod 12*4294967296+pick n (p+4) 9,0,3⟩],rfl,⟨rf,rf,rf,tv⟩,(by simp;rfl),?_⟩
  refine .inl ⟨[ak ⟨0,1+pick n (p+1) 4,pick n (p+3) 5,3,[⟨(R.sh+1).tmod 12*4294967296+pick n (p+4) 9,0,3⟩]⟩],rfl,⟨rf,rf,rf,rf,rf,tv⟩,(by simp;rfl),?_⟩
  exact⟨_,_,⟨rfl,rfl⟩,by kernel_rfl,⟨⟨rf,rf,rf,rf,rf,rf,rf,tv⟩,tv⟩,bl (k:=dE R) rfl⟩
end
end Go.Proofs.YtpbiiigpphehbaaGreatDoor
