import Derived.Test.YtpbiiigpphehbaaGreatDoorFM45
import Derived.Test.YtpbiiigpphehbaaGreatDoorFM35
import Derived.Test.YtpbiiigpphehbaaGreatDoorFM43
set_option linter.all false
namespace Go.Proofs.YtpbiiigpphehbaaGreatDoor
set_option maxRecDepth 100000
set_option maxHeartbeats 8000000
section
open Go.TM
variable [bJ]
theorem Qi(P:PL)(c c':Ch)(m:dX)(l:List Lt)(hm:1<=m.n/\m.n<=1099511627776)(hv:0<=eD P c' m/\eD P c' m<=1099511627776)(hs:0<=P.sh/\P.sh<=12)(hf:P.fl.length<=900000/\c'.fl.length<=900000/\c'.sk.length<=900000)(ec:m.fr≠0)(lx:m.to=0)
 (ht:aq Tryz.prog 94 [.ptr 0 0,cJ (ak m)] 14 (eZ 0 0 P c) 0 [.dv (aS l),.dv (I 0)] (eZ 0 0 P c')):
 aq Tryz.prog 48 [.ptr 0 0,cJ (ak m)] 14 (eZ 1 1 P c) 0 [.dv (I 0)] (eZ 1 1 P { Au P c' m (eD P c' m-m.n) l []with sk:=c'.sk++[(dK P c' m l []).id] }):=by
 have lf:(P.fl.map aM).length=P.fl.length:=abz ..
 have lc:(c'.fl.map aM).length=c'.fl.length:=abz ..
 rw[show eZ 1 1 P { Au P c' m (eD P c' m-m.n) l []with sk:=c'.sk++[(dK P c' m l []).id] }=_ from S0 1 1 P { c' with b8:=aU c'.b8 m.it (eD P c' m-m.n) } c'.fl (dK P c' m l []) c'.sk (dK P c' m l []).id]
 refine cO Tryz.func48 rfl (by kernel_rfl) ?_
 repeat first|apply g1|apply g2|apply g3|apply g4|apply g5
 refine .inr (cl [0,1,2,3,4,5,6,7,8,9,10,11,12,13] ht (by kernel_rfl) rfl rfl ?_)
 repeat first|apply g1|apply g2|apply g3|apply g4|apply g5
 refine aby (fun h=>(by cases h)) fun _=>?_
 refine⟨kh,eI m.it,rfl,rfl,I ((aR c'.b8 m.it).getD 0),(aR c'.b8 m.it).isSome,fun _=>qG _ _,qH _ _,rfl,?_⟩
 refine aby (by kernel_rfl) ?_
 refine aby (fun h=>?_) fun h=>?_
 rotate_left
 ·have h:(aR c'.b8 m.it).isSome=true:=by simpa using h
  rw[Gf (P:=P) h]
  refine aby (fun h=>absurd (beq_iff_eq.1 h) ec) fun _=>?_
  refine aby (fun _=>?_) fun h=>absurd lx (beq_eq_false_iff_ne.1 h)
  refine⟨fun _=>⟨by omega,by omega⟩,?_⟩
  refine aby (fun h=>absurd (abQ h) (by omega)) fun _=>?_
  refine⟨kh,eI m.it,rfl,rfl,I (eD P c' m-m.n),⟨rf,tv⟩,rfl,false,fun _=>⟨n5 c'.b8 _,u7 _⟩,?_⟩
  rw[show cW (nZ c'.b8) (eI m.it) (I (eD P c' m-m.n))=nZ (aU c'.b8 m.it (eD P c' m-m.n))from dB jJ c'.b8 _ _]
  refine aby (by kernel_rfl) ?_
  repeat first|apply g1|apply g2|apply g3|apply g4|apply g5|refine⟨fun _=>⟨by omega,by omega⟩,?_⟩
  refine aby (by kernel_rfl) ?_
  repeat first|apply g1|apply g2|apply g3|apply g4|apply g5
  refine aby (fun h=>absurd (by simp at h;exact h.1) ec) fun _=>?_
  refine .inl ⟨[aM (dK P c' m l [])],rfl,⟨aG (by simp[lf,lc,dK]),rf,rf,rf,rf,rf,rf,rf,rf,rf,DV.aL 1,tv⟩,(by simp;rfl),?_⟩
  refine .inr ⟨[aM (dK P c' m l [])],b7.refl _,bF (by simp;omega),by simp;omega,?_⟩
  refine aby (by kernel_rfl) ?_
  refine aby (fun _=>?_) fun h=>absurd lx (beq_eq_false_iff_ne.1 h)
  refine .inl ⟨[I (dK P c' m l []).id],rfl,⟨aG (by simp[lf,lc,dK]),tv⟩,(by simp;rfl),?_⟩
  refine .inr ⟨[I (dK P c' m l []).id],b7.refl _,bI (by simp;omega),by simp;omega,?_⟩
  refine aby (by kernel_rfl) ?_
  exact ext (by kernel_rfl) rfl rfl
 ·have h:(aR c'.b8 m.it).isSome=false:=by simpa using h
  have hh:=qG P.b8 m.it
  have hz:=qH P.b8 m.it
  rw[show(aR P.b8 m.it).getD 0=eD P c' m from Gg h]at hh hz
  refine⟨kh,eI m.it,rfl,rfl,I (eD P c' m),(aR P.b8 m.it).isSome,fun _=>hh,hz,rfl,?_⟩
  refine aby (by kernel_rfl) ?_
  refine aby (fun h=>absurd (beq_iff_eq.1 h) ec) fun _=>?_
  refine aby (fun _=>?_) fun h=>absurd lx (beq_eq_false_iff_ne.1 h)
  refine⟨fun _=>⟨by omega,by omega⟩,?_⟩
  refine aby (fun h=>absurd (abQ h) (by omega)) fun _=>?_
  refine⟨kh,eI m.it,rfl,rfl,I (eD P c' m-m.n),⟨rf,tv⟩,rfl,false,fun _=>⟨n5 c'.b8 _,u7 _⟩,?_⟩
  rw[show cW (nZ c'.b8) (eI m.it) (I (eD P c' m-m.n))=nZ (aU c'.b8 m.it (eD P c' m-m.n))from dB jJ c'.b8 _ _]
  refine aby (by kernel_rfl) ?_
  repeat first|apply g1|apply g2|apply g3|apply g4|apply g5|refine⟨fun _=>⟨by omega,by omega⟩,?_⟩
  refine aby (by kernel_rfl) ?_
  repeat first|apply g1|apply g2|apply g3|apply g4|apply g5
  refine aby (fun h=>absurd (by simp at h;exact h.1) ec) fun _=>?_
  refine .inl ⟨[aM (dK P c' m l [])],rfl,⟨aG (by simp[lf,lc,dK]),rf,rf,rf,rf,rf,rf,rf,rf,rf,DV.aL 1,tv⟩,(by simp;rfl),?_⟩
  refine .inr ⟨[aM (dK P c' m l [])],b7.refl _,bF (by simp;omega),by simp;omega,?_⟩
  refine aby (by kernel_rfl) ?_
  refine aby (fun _=>?_) fun h=>absurd lx (beq_eq_false_iff_ne.1 h)
  refine .inl ⟨[I (dK P c' m l []).id],rfl,⟨aG (by simp[lf,lc,dK]),tv⟩,(by simp;rfl),?_⟩
  refine .inr ⟨[I (dK P c' m l []).id],b7.refl _,bI (by simp;omega),by simp;omega,?_⟩
  refine aby (by kernel_rfl) ?_
  exact ext (by kernel_rfl) rfl rfl
theorem Qj(P:PL)(c c':Ch)(m:dX)(l:List Lt)(hm:1<=m.n/\m.n<=1099511627776)(hv:0<=eD P c' m/\eD P c' m<=1099511627776)(hs:0<=P.sh/\P.sh<=12)(hf:P.fl.length<=900000/\c'.fl.length<=900000/\c'.sk.length<=900000)(ec:m.fr=0)(lx:m.to≠0)(S3:1099511627776<eD P c' m+m.n)
 (ht:aq Tryz.prog 94 [.ptr 0 0,cJ (ak m)] 14 (eZ 0 0 P c) 0 [.dv (aS l),.dv (I 0)] (eZ 0 0 P c')):
 aq Tryz.prog 48 [.ptr 0 0,cJ (ak m)] 14 (eZ 1 1 P c) 0 [.dv (I 4)] (eZ 1 1 P c'):=by
 have lf:(P.fl.map aM).length=P.fl.length:=abz ..
 have lc:(c'.fl.map aM).length=c'.fl.length:=abz ..
 refine cO Tryz.func48 rfl (by kernel_rfl) ?_
 repeat first|apply g1|apply g2|apply g3|apply g4|apply g5
 refine .inr (cl [0,1,2,3,4,5,6,7,8,9,10,11,12,13] ht (by kernel_rfl) rfl rfl ?_)
 repeat first|apply g1|apply g2|apply g3|apply g4|apply g5
 refine aby (fun h=>(by cases h)) fun _=>?_
 refine⟨kh,eI m.it,rfl,rfl,I ((aR c'.b8 m.it).getD 0),(aR c'.b8 m.it).isSome,fun _=>qG _ _,qH _ _,rfl,?_⟩
 refine aby (by kernel_rfl) ?_
 refine aby (fun h=>?_) fun h=>?_
 rotate_left
 ·have h:(aR c'.b8 m.it).isSome=true:=by simpa using h
  rw[Gf (P:=P) h]
  refine aby (fun _=>?_) fun h=>absurd ec (beq_eq_false_iff_ne.1 h)
  refine⟨fun _=>⟨by omega,by omega⟩,?_⟩
  refine aby (fun h=>absurd (beq_iff_eq.1 h) lx) fun _=>?_
  refine aby (fun _=>ext (by kernel_rfl) rfl rfl) fun h=>absurd S3 (abR h)
 ·have h:(aR c'.b8 m.it).isSome=false:=by simpa using h
  have hh:=qG P.b8 m.it
  have hz:=qH P.b8 m.it
  rw[show(aR P.b8 m.it).getD 0=eD P c' m from Gg h]at hh hz
  refine⟨kh,eI m.it,rfl,rfl,I (eD P c' m),(aR P.b8 m.it).isSome,fun _=>hh,hz,rfl,?_⟩
  refine aby (by kernel_rfl) ?_
  refine aby (fun _=>?_) fun h=>absurd ec (beq_eq_false_iff_ne.1 h)
  refine⟨fun _=>⟨by omega,by omega⟩,?_⟩
  refine aby (fun h=>absurd (beq_iff_eq.1 h) lx) fun _=>?_
  refine aby (fun _=>ext (by kernel_rfl) rfl rfl) fun h=>absurd S3 (abR h)
end
end Go.Proofs.YtpbiiigpphehbaaGreatDoor
