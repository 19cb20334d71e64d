import Derived.Test.YtpbiiigpphehbaaGreatDoorFM45
import Derived.Test.YtpbiiigpphehbaaGreatDoorFM35
import Derived.Test.YtpbiiigpphehbaaGreatDoorFM43
set_option linter.all false
namespace Go.Proofs.YtpbiiigpphehbaaGreatDoor
set_option maxRecDepth 100000
set_option maxHeartbeats 8000000
section
open Go.TM
variable [bJ]
theorem Qh(P:PL)(c c':Ch)(m:dX)(l:List Lt)(hm:1<=m.n/\m.n<=1099511627776)(hv:0<=eD P c' m/\eD P c' m<=1099511627776)(hs:0<=P.sh/\P.sh<=12)(hf:P.fl.length<=900000/\c'.fl.length<=900000/\c'.sk.length<=900000)(ec:m.fr=0)(lx:m.to≠0)(hk:c'.sp.kind=4\/c'.sp.kind=10)(S3:¬1099511627776<eD P c' m+m.n)(dF:ca (fo P c' (m.to,m.it))=true)(hlen:¬(4096:Int)<=(fo P c' (m.to,m.it)).length)
 (ht:aq Tryz.prog 94 [.ptr 0 0,cJ (ak m)] 14 (eZ 0 0 P c) 0 [.dv (aS l),.dv (I 0)] (eZ 0 0 P c')):
 aq Tryz.prog 48 [.ptr 0 0,cJ (ak m)] 14 (eZ 1 1 P c) 0 [.dv (I 0)] (eZ 1 1 P { Au P c' m (eD P c' m+m.n) l c'.sk with st:=aU c'.st (m.to,m.it) (bj (fo P c' (m.to,m.it)) ⟨(dK P c' m l c'.sk).id,0,m.n⟩) }):=by
 have lf:(P.fl.map aM).length=P.fl.length:=abz ..
 have lc:(c'.fl.map aM).length=c'.fl.length:=abz ..
 rw[show eZ 1 1 P { Au P c' m (eD P c' m+m.n) l c'.sk with st:=aU c'.st (m.to,m.it) (bj (fo P c' (m.to,m.it)) ⟨(dK P c' m l c'.sk).id,0,m.n⟩) }=_ from qi 1 1 P { c' with b8:=aU c'.b8 m.it (eD P c' m+m.n),st:=aU c'.st (m.to,m.it) (bj (fo P c' (m.to,m.it)) ⟨(dK P c' m l c'.sk).id,0,m.n⟩) } c'.fl (dK P c' m l c'.sk)]
 have aj:=jK P (Au P c' m (eD P c' m+m.n) l c'.sk) m.to m.it
 rw[show eZ 0 0 P (Au P c' m (eD P c' m+m.n) l c'.sk)=_ from qi 0 0 P { c' with b8:=aU c'.b8 m.it (eD P c' m+m.n) } c'.fl (dK P c' m l c'.sk)]at aj
 have lS:((fo P c' (m.to,m.it)).map aF).length=(fo P c' (m.to,m.it)).length:=abz ..
 refine cO Tryz.func48 rfl (by kernel_rfl) ?_
 repeat first|apply g1|apply g2|apply g3|apply g4|apply g5
 refine .inr (cl [0,1,2,3,4,5,6,7,8,9,10,11,12,13] ht (by kernel_rfl) rfl rfl ?_)
 repeat first|apply g1|apply g2|apply g3|apply g4|apply g5
 refine aby (fun h=>(by cases h)) fun _=>?_
 refine⟨kh,eI m.it,rfl,rfl,I ((aR c'.b8 m.it).getD 0),(aR c'.b8 m.it).isSome,fun _=>qG _ _,qH _ _,rfl,?_⟩
 refine aby (by kernel_rfl) ?_
 refine aby (fun h=>?_) fun h=>?_
 rotate_left
 ·have h:(aR c'.b8 m.it).isSome=true:=by simpa using h
  rw[Gf (P:=P) h]
  refine aby (fun _=>?_) fun h=>absurd ec (beq_eq_false_iff_ne.1 h)
  refine⟨fun _=>⟨by omega,by omega⟩,?_⟩
  refine aby (fun h=>absurd (beq_iff_eq.1 h) lx) fun _=>?_
  refine aby (fun h=>absurd (abQ h) (by omega)) fun _=>?_
  refine⟨kh,eI m.it,rfl,rfl,I (eD P c' m+m.n),⟨rf,tv⟩,rfl,false,fun _=>⟨n5 c'.b8 _,u7 _⟩,?_⟩
  rw[show cW (nZ c'.b8) (eI m.it) (I (eD P c' m+m.n))=nZ (aU c'.b8 m.it (eD P c' m+m.n))from dB jJ c'.b8 _ _]
  refine aby (by kernel_rfl) ?_
  repeat first|apply g1|apply g2|apply g3|apply g4|apply g5|refine⟨fun _=>⟨by omega,by omega⟩,?_⟩
  refine aby (by kernel_rfl) ?_
  repeat first|apply g1|apply g2|apply g3|apply g4|apply g5
  refine aby (fun _=>?_) fun h=>absurd h (by rcases hk with hk|hk<;>simp[ec,hk])
  refine .inr (cl [6] (vY c'.sk (by omega)) (by kernel_rfl) rfl rfl ?_)
  refine .inl ⟨[aM (dK P c' m l c'.sk)],rfl,⟨aG (by simp[lf,lc,dK]),rf,rf,rf,rf,rf,rf,rf,rf,rf,rf,tv⟩,(by simp;rfl),?_⟩
  refine .inr ⟨[aM (dK P c' m l c'.sk)],b7.refl _,bF (by simp;omega),by simp;omega,?_⟩
  refine aby (by kernel_rfl) ?_
  refine aby (fun h=>absurd (beq_iff_eq.1 h) lx) fun _=>?_
  refine .inr (cl [0,1,2,3,4,5,6,7,8,9,10,11,12,13] aj (by kernel_rfl) rfl rfl ?_)
  refine aby (fun h=>absurd (abQ h) (by rw[show((fo P (Au P c' m (eD P c' m+m.n) l c'.sk) (m.to,m.it)).map aF).length=_ from lS];omega)) fun _=>?_
  refine .inl ⟨_,fun _=>⟨[aS (fo P c' (m.to,m.it)),aF ⟨(dK P c' m l c'.sk).id,0,m.n⟩],⟨rf,DV.Le.of_eq (by simp[lf,lc,dK,aF]),tv⟩,kA (fo P c' (m.to,m.it)) ⟨(dK P c' m l c'.sk).id,0,m.n⟩ dF (aw.2 ⟨by simp[dK];omega,by simp,by simp;omega,by simp;omega⟩)⟩,?_⟩
  refine⟨mU,qF (m.to,m.it),rfl,rfl,aS (bj (fo P c' (m.to,m.it)) ⟨(dK P c' m l c'.sk).id,0,m.n⟩),⟨rf,tv⟩,rfl,false,fun _=>⟨pM c'.st _,gU _⟩,?_⟩
  rw[show cW (pI c'.st) (qF (m.to,m.it)) (aS (bj (fo P c' (m.to,m.it)) ⟨(dK P c' m l c'.sk).id,0,m.n⟩))=pI (aU c'.st (m.to,m.it) (bj (fo P c' (m.to,m.it)) ⟨(dK P c' m l c'.sk).id,0,m.n⟩))from dB iP c'.st _ _]
  refine aby (by kernel_rfl) ?_
  exact ext (by kernel_rfl) rfl rfl
 ·have h:(aR c'.b8 m.it).isSome=false:=by simpa using h
  have hh:=qG P.b8 m.it
  have hz:=qH P.b8 m.it
  rw[show(aR P.b8 m.it).getD 0=eD P c' m from Gg h]at hh hz
  refine⟨kh,eI m.it,rfl,rfl,I (eD P c' m),(aR P.b8 m.it).isSome,fun _=>hh,hz,rfl,?_⟩
  refine aby (by kernel_rfl) ?_
  refine aby (fun _=>?_) fun h=>absurd ec (beq_eq_false_iff_ne.1 h)
  refine⟨fun _=>⟨by omega,by omega⟩,?_⟩
  refine aby (fun h=>absurd (beq_iff_eq.1 h) lx) fun _=>?_
  refine aby (fun h=>absurd (abQ h) (by omega)) fun _=>?_
  refine⟨kh,eI m.it,rfl,rfl,I (eD P c' m+m.n),⟨rf,tv⟩,rfl,false,fun _=>⟨n5 c'.b8 _,u7 _⟩,?_⟩
  rw[show cW (nZ c'.b8) (eI m.it) (I (eD P c' m+m.n))=nZ (aU c'.b8 m.it (eD P c' m+m.n))from dB jJ c'.b8 _ _]
  refine aby (by kernel_rfl) ?_
  repeat first|apply g1|apply g2|apply g3|apply g4|apply g5|refine⟨fun _=>⟨by omega,by omega⟩,?_⟩
  refine aby (by kernel_rfl) ?_
  repeat first|apply g1|apply g2|apply g3|apply g4|apply g5
  refine aby (fun _=>?_) fun h=>absurd h (by rcases hk with hk|hk<;>simp[ec,hk])
  refine .inr (cl [6] (vY c'.sk (by omega)) (by kernel_rfl) rfl rfl ?_)
  refine .inl ⟨[aM (dK P c' m l c'.sk)],rfl,⟨aG (by simp[lf,lc,dK]),rf,rf,rf,rf,rf,rf,rf,rf,rf,rf,tv⟩,(by simp;rfl),?_⟩
  refine .inr ⟨[aM (dK P c' m l c'.sk)],b7.refl _,bF (by simp;omega),by simp;omega,?_⟩
  refine aby (by kernel_rfl) ?_
  refine aby (fun h=>absurd (beq_iff_eq.1 h) lx) fun _=>?_
  refine .inr (cl [0,1,2,3,4,5,6,7,8,9,10,11,12,13] aj (by kernel_rfl) rfl rfl ?_)
  refine aby (fun h=>absurd (abQ h) (by rw[show((fo P (Au P c' m (eD P c' m+m.n) l c'.sk) (m.to,m.it)).map aF).length=_ from lS];omega)) fun _=>?_
  refine .inl ⟨_,fun _=>⟨[aS (fo P c' (m.to,m.it)),aF ⟨(dK P c' m l c'.sk).id,0,m.n⟩],⟨rf,DV.Le.of_eq (by simp[lf,lc,dK,aF]),tv⟩,kA (fo P c' (m.to,m.it)) ⟨(dK P c' m l c'.sk).id,0,m.n⟩ dF (aw.2 ⟨by simp[dK];omega,by simp,by simp;omega,by simp;omega⟩)⟩,?_⟩
  refine⟨mU,qF (m.to,m.it),rfl,rfl,aS (bj (fo P c' (m.to,m.it)) ⟨(dK P c' m l c'.sk).id,0,m.n⟩),⟨rf,tv⟩,rfl,false,fun _=>⟨pM c'.st _,gU _⟩,?_⟩
  rw[show cW (pI c'.st) (qF (m.to,m.it)) (aS (bj (fo P c' (m.to,m.it)) ⟨(dK P c' m l c'.sk).id,0,m.n⟩))=pI (aU c'.st (m.to,m.it) (bj (fo P c' (m.to,m.it)) ⟨(dK P c' m l c'.sk).id,0,m.n⟩))from dB iP c'.st _ _]
  refine aby (by kernel_rfl) ?_
  exact ext (by kernel_rfl) rfl rfl
end
end Go.Proofs.YtpbiiigpphehbaaGreatDoor
