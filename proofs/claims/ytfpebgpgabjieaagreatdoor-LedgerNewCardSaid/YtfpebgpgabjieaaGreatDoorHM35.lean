import Derived.Test.YtfpebgpgabjieaaGreatDoorHM30
set_option linter.all false
open Go.TM.oA Go.TM.oB Go.TM.oC Go.TM.oD Go.TM.oE
namespace Go.Proofs.YtfpebgpgabjieaaGreatDoor
set_option maxRecDepth 100000
set_option maxHeartbeats 8000000
open Go.TM
variable [aW]
theorem QX(P:PL)(c c':Ch)(m:eS)(l:List Lt)(hm:1<=m.n/\m.n<=1099511627776)(hv:0<=dX P c' m/\dX P c' m<=1099511627776)(hs:0<=P.sh/\P.sh<=12)(hf:P.fl.length<=900000/\c'.fl.length<=900000/\c'.sk.length<=900000)(fo:m.fr=0)(kp:m.to≠0)(hk:c'.sp.kind≠4/\c'.sp.kind≠10)(UZ:¬1099511627776<dX P c' m+m.n)(eB:bE (eH P c' (m.to,m.it))=true)(hlen:¬(4096:Int)<=(eH P c' (m.to,m.it)).length)
 (ht:aw Tryz.prog 145 [.ptr 0 0,cP (ay m)] 14 (dP 0 0 P c) 0 [.dv (aR l),.dv (I 0)] (dP 0 0 P c')):
 aw Tryz.prog 99 [.ptr 0 0,cP (ay m)] 14 (dP 1 1 P c) 0 [.dv (I 0)] (dP 1 1 P { Ai P c' m (dX P c' m+m.n) l []with st:=aN c'.st (m.to,m.it) (aT (eH P c' (m.to,m.it)) ⟨(dQ P c' m l []).id,0,m.n⟩) }):=by
 have lf:(P.fl.map bB).length=P.fl.length:=adi ..
 have lc:(c'.fl.map bB).length=c'.fl.length:=adi ..
 rw[show dP 1 1 P { Ai P c' m (dX P c' m+m.n) l []with st:=aN c'.st (m.to,m.it) (aT (eH P c' (m.to,m.it)) ⟨(dQ P c' m l []).id,0,m.n⟩) }=_ from qy 1 1 P { c' with cj:=aN c'.cj m.it (dX P c' m+m.n),st:=aN c'.st (m.to,m.it) (aT (eH P c' (m.to,m.it)) ⟨(dQ P c' m l []).id,0,m.n⟩) } c'.fl (dQ P c' m l [])]
 have aq:=iH P (Ai P c' m (dX P c' m+m.n) l []) m.to m.it
 rw[show dP 0 0 P (Ai P c' m (dX P c' m+m.n) l [])=_ from qy 0 0 P { c' with cj:=aN c'.cj m.it (dX P c' m+m.n) } c'.fl (dQ P c' m l [])]at aq
 have lS:((eH P c' (m.to,m.it)).map aD).length=(eH P c' (m.to,m.it)).length:=adi ..
 refine cO Tryz.func99 rfl (by kernel_rfl) ?_
 repeat refine gG ?_
 refine .inr (cl [0,1,2,3,4,5,6,7,8,9,10,11,12,13] ht (by kernel_rfl) rfl rfl ?_)
 repeat refine gG ?_
 refine adh (fun h=>(by cases h)) fun _=>?_
 refine⟨j7,eI m.it,rfl,rfl,I ((aV c'.cj m.it).getD 0),(aV c'.cj m.it).isSome,fun _=>q8 _ _,q9 _ _,rfl,?_⟩
 refine adh (by kernel_rfl) ?_
 refine adh (fun h=>?_) fun h=>?_
 rotate_left
 ·have h:(aV c'.cj m.it).isSome=true:=by simpa using h
  rw[F0 (P:=P) h]
  refine adh (fun _=>?_) fun h=>absurd fo (beq_eq_false_iff_ne.1 h)
  refine⟨fun _=>by omega,?_⟩
  refine adh (fun h=>absurd (beq_iff_eq.1 h) kp) fun _=>?_
  refine adh (fun h=>absurd (adz h) (by omega)) fun _=>?_
  refine⟨j7,eI m.it,rfl,rfl,I (dX P c' m+m.n),⟨rf,tv⟩,rfl,false,fun _=>⟨nX c'.cj _,uU _⟩,?_⟩
  rw[show dh (oN c'.cj) (eI m.it) (I (dX P c' m+m.n))=oN (aN c'.cj m.it (dX P c' m+m.n))from cY jd c'.cj _ _]
  refine adh (by kernel_rfl) ?_
  repeat first|refine gG ?_|refine⟨fun _=>by omega,?_⟩
  refine adh (by kernel_rfl) ?_
  repeat refine gG ?_
  refine adh (fun h=>absurd (by simp at h;exact h) (by simp[hk.1,hk.2])) fun _=>?_
  refine .inl ⟨[bB (dQ P c' m l [])],rfl,⟨aM (by simp[lf,lc,dQ]),rf,rf,rf,rf,rf,rf,rf,rf,rf,DV.aY 1,tv⟩,(by simp;rfl),?_⟩
  refine .inr ⟨[bB (dQ P c' m l [])],bW.refl _,bF (by simp;omega),by simp;omega,?_⟩
  refine adh (by kernel_rfl) ?_
  refine adh (fun h=>absurd (beq_iff_eq.1 h) kp) fun _=>?_
  refine .inr (cl [0,1,2,3,4,5,6,7,8,9,10,11,12,13] aq (by kernel_rfl) rfl rfl ?_)
  refine adh (fun h=>absurd (adz h) (by rw[show((eH P (Ai P c' m (dX P c' m+m.n) l []) (m.to,m.it)).map aD).length=_ from lS];omega)) fun _=>?_
  refine .inl ⟨_,fun _=>⟨[aR (eH P c' (m.to,m.it)),aD ⟨(dQ P c' m l []).id,0,m.n⟩],⟨rf,DV.Le.of_eq (by simp[lf,lc,dQ,aD]),tv⟩,kS (eH P c' (m.to,m.it)) ⟨(dQ P c' m l []).id,0,m.n⟩ eB (ak.2 ⟨by simp[dQ];omega,by simp,by simp;omega,by simp;omega⟩)⟩,?_⟩
  refine⟨mX,r5 (m.to,m.it),rfl,rfl,aR (aT (eH P c' (m.to,m.it)) ⟨(dQ P c' m l []).id,0,m.n⟩),⟨rf,tv⟩,rfl,false,fun _=>⟨nW c'.st _,gi _⟩,?_⟩
  rw[show dh (qR c'.st) (r5 (m.to,m.it)) (aR (aT (eH P c' (m.to,m.it)) ⟨(dQ P c' m l []).id,0,m.n⟩))=qR (aN c'.st (m.to,m.it) (aT (eH P c' (m.to,m.it)) ⟨(dQ P c' m l []).id,0,m.n⟩))from cY jc c'.st _ _]
  refine adh (by kernel_rfl) ?_
  exact ext (by kernel_rfl) rfl rfl
 ·have h:(aV c'.cj m.it).isSome=false:=by simpa using h
  have hh:=q8 P.cj m.it
  have hz:=q9 P.cj m.it
  rw[show(aV P.cj m.it).getD 0=dX P c' m from F1 h]at hh hz
  refine⟨j7,eI m.it,rfl,rfl,I (dX P c' m),(aV P.cj m.it).isSome,fun _=>hh,hz,rfl,?_⟩
  refine adh (by kernel_rfl) ?_
  refine adh (fun _=>?_) fun h=>absurd fo (beq_eq_false_iff_ne.1 h)
  refine⟨fun _=>by omega,?_⟩
  refine adh (fun h=>absurd (beq_iff_eq.1 h) kp) fun _=>?_
  refine adh (fun h=>absurd (adz h) (by omega)) fun _=>?_
  refine⟨j7,eI m.it,rfl,rfl,I (dX P c' m+m.n),⟨rf,tv⟩,rfl,false,fun _=>⟨nX c'.cj _,uU _⟩,?_⟩
  rw[show dh (oN c'.cj) (eI m.it) (I (dX P c' m+m.n))=oN (aN c'.cj m.it (dX P c' m+m.n))from cY jd c'.cj _ _]
  refine adh (by kernel_rfl) ?_
  repeat first|refine gG ?_|refine⟨fun _=>by omega,?_⟩
  refine adh (by kernel_rfl) ?_
  repeat refine gG ?_
  refine adh (fun h=>absurd (by simp at h;exact h) (by simp[hk.1,hk.2])) fun _=>?_
  refine .inl ⟨[bB (dQ P c' m l [])],rfl,⟨aM (by simp[lf,lc,dQ]),rf,rf,rf,rf,rf,rf,rf,rf,rf,DV.aY 1,tv⟩,(by simp;rfl),?_⟩
  refine .inr ⟨[bB (dQ P c' m l [])],bW.refl _,bF (by simp;omega),by simp;omega,?_⟩
  refine adh (by kernel_rfl) ?_
  refine adh (fun h=>absurd (beq_iff_eq.1 h) kp) fun _=>?_
  refine .inr (cl [0,1,2,3,4,5,6,7,8,9,10,11,12,13] aq (by kernel_rfl) rfl rfl ?_)
  refine adh (fun h=>absurd (adz h) (by rw[show((eH P (Ai P c' m (dX P c' m+m.n) l []) (m.to,m.it)).map aD).length=_ from lS];omega)) fun _=>?_
  refine .inl ⟨_,fun _=>⟨[aR (eH P c' (m.to,m.it)),aD ⟨(dQ P c' m l []).id,0,m.n⟩],⟨rf,DV.Le.of_eq (by simp[lf,lc,dQ,aD]),tv⟩,kS (eH P c' (m.to,m.it)) ⟨(dQ P c' m l []).id,0,m.n⟩ eB (ak.2 ⟨by simp[dQ];omega,by simp,by simp;omega,by simp;omega⟩)⟩,?_⟩
  refine⟨mX,r5 (m.to,m.it),rfl,rfl,aR (aT (eH P c' (m.to,m.it)) ⟨(dQ P c' m l []).id,0,m.n⟩),⟨rf,tv⟩,rfl,false,fun _=>⟨nW c'.st _,gi _⟩,?_⟩
  rw[show dh (qR c'.st) (r5 (m.to,m.it)) (aR (aT (eH P c' (m.to,m.it)) ⟨(dQ P c' m l []).id,0,m.n⟩))=qR (aN c'.st (m.to,m.it) (aT (eH P c' (m.to,m.it)) ⟨(dQ P c' m l []).id,0,m.n⟩))from cY jc c'.st _ _]
  refine adh (by kernel_rfl) ?_
  exact ext (by kernel_rfl) rfl rfl
end Go.Proofs.YtfpebgpgabjieaaGreatDoor
