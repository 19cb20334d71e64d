import Derived.Test.YtfpebgpgabjieaaGreatDoorHM30
set_option linter.all false
open Go.TM.oA Go.TM.oB Go.TM.oC Go.TM.oD Go.TM.oE
namespace Go.Proofs.YtfpebgpgabjieaaGreatDoor
set_option maxRecDepth 100000
set_option maxHeartbeats 8000000
open Go.TM
variable [aW]
theorem QW(P:PL)(c c':Ch)(m:eS)(l:List Lt)(hm:1<=m.n/\m.n<=1099511627776)(hv:0<=dX P c' m/\dX P c' m<=1099511627776)(hs:0<=P.sh/\P.sh<=12)(hf:P.fl.length<=900000/\c'.fl.length<=900000/\c'.sk.length<=900000)(fo:m.fr≠0)(kp:m.to=0)
 (ht:aw Tryz.prog 145 [.ptr 0 0,cP (ay m)] 14 (dP 0 0 P c) 0 [.dv (aR l),.dv (I 0)] (dP 0 0 P c')):
 aw Tryz.prog 99 [.ptr 0 0,cP (ay m)] 14 (dP 1 1 P c) 0 [.dv (I 0)] (dP 1 1 P { Ai P c' m (dX P c' m-m.n) l []with sk:=c'.sk++[(dQ P c' m l []).id] }):=by
 have lf:(P.fl.map bB).length=P.fl.length:=adi ..
 have lc:(c'.fl.map bB).length=c'.fl.length:=adi ..
 rw[show dP 1 1 P { Ai P c' m (dX P c' m-m.n) l []with sk:=c'.sk++[(dQ P c' m l []).id] }=_ from UO 1 1 P { c' with cj:=aN c'.cj m.it (dX P c' m-m.n) } c'.fl (dQ P c' m l []) c'.sk (dQ P c' m l []).id]
 refine cO Tryz.func99 rfl (by kernel_rfl) ?_
 repeat refine gG ?_
 refine .inr (cl [0,1,2,3,4,5,6,7,8,9,10,11,12,13] ht (by kernel_rfl) rfl rfl ?_)
 repeat refine gG ?_
 refine adh (fun h=>(by cases h)) fun _=>?_
 refine⟨j7,eI m.it,rfl,rfl,I ((aV c'.cj m.it).getD 0),(aV c'.cj m.it).isSome,fun _=>q8 _ _,q9 _ _,rfl,?_⟩
 refine adh (by kernel_rfl) ?_
 refine adh (fun h=>?_) fun h=>?_
 rotate_left
 ·have h:(aV c'.cj m.it).isSome=true:=by simpa using h
  rw[F0 (P:=P) h]
  refine adh (fun h=>absurd (beq_iff_eq.1 h) fo) fun _=>?_
  refine adh (fun _=>?_) fun h=>absurd kp (beq_eq_false_iff_ne.1 h)
  refine⟨fun _=>by omega,?_⟩
  refine adh (fun h=>absurd (adz h) (by omega)) fun _=>?_
  refine⟨j7,eI m.it,rfl,rfl,I (dX P c' m-m.n),⟨rf,tv⟩,rfl,false,fun _=>⟨nX c'.cj _,uU _⟩,?_⟩
  rw[show dh (oN c'.cj) (eI m.it) (I (dX P c' m-m.n))=oN (aN c'.cj m.it (dX P c' m-m.n))from cY jd c'.cj _ _]
  refine adh (by kernel_rfl) ?_
  repeat first|refine gG ?_|refine⟨fun _=>by omega,?_⟩
  refine adh (by kernel_rfl) ?_
  repeat refine gG ?_
  refine adh (fun h=>absurd (by simp at h;exact h.1) fo) fun _=>?_
  refine .inl ⟨[bB (dQ P c' m l [])],rfl,⟨aM (by simp[lf,lc,dQ]),rf,rf,rf,rf,rf,rf,rf,rf,rf,DV.aY 1,tv⟩,(by simp;rfl),?_⟩
  refine .inr ⟨[bB (dQ P c' m l [])],bW.refl _,bF (by simp;omega),by simp;omega,?_⟩
  refine adh (by kernel_rfl) ?_
  refine adh (fun _=>?_) fun h=>absurd kp (beq_eq_false_iff_ne.1 h)
  refine .inl ⟨[I (dQ P c' m l []).id],rfl,⟨aM (by simp[lf,lc,dQ]),tv⟩,(by simp;rfl),?_⟩
  refine .inr ⟨[I (dQ P c' m l []).id],bW.refl _,bI (by simp;omega),by simp;omega,?_⟩
  refine adh (by kernel_rfl) ?_
  exact ext (by kernel_rfl) rfl rfl
 ·have h:(aV c'.cj m.it).isSome=false:=by simpa using h
  have hh:=q8 P.cj m.it
  have hz:=q9 P.cj m.it
  rw[show(aV P.cj m.it).getD 0=dX P c' m from F1 h]at hh hz
  refine⟨j7,eI m.it,rfl,rfl,I (dX P c' m),(aV P.cj m.it).isSome,fun _=>hh,hz,rfl,?_⟩
  refine adh (by kernel_rfl) ?_
  refine adh (fun h=>absurd (beq_iff_eq.1 h) fo) fun _=>?_
  refine adh (fun _=>?_) fun h=>absurd kp (beq_eq_false_iff_ne.1 h)
  refine⟨fun _=>by omega,?_⟩
  refine adh (fun h=>absurd (adz h) (by omega)) fun _=>?_
  refine⟨j7,eI m.it,rfl,rfl,I (dX P c' m-m.n),⟨rf,tv⟩,rfl,false,fun _=>⟨nX c'.cj _,uU _⟩,?_⟩
  rw[show dh (oN c'.cj) (eI m.it) (I (dX P c' m-m.n))=oN (aN c'.cj m.it (dX P c' m-m.n))from cY jd c'.cj _ _]
  refine adh (by kernel_rfl) ?_
  repeat first|refine gG ?_|refine⟨fun _=>by omega,?_⟩
  refine adh (by kernel_rfl) ?_
  repeat refine gG ?_
  refine adh (fun h=>absurd (by simp at h;exact h.1) fo) fun _=>?_
  refine .inl ⟨[bB (dQ P c' m l [])],rfl,⟨aM (by simp[lf,lc,dQ]),rf,rf,rf,rf,rf,rf,rf,rf,rf,DV.aY 1,tv⟩,(by simp;rfl),?_⟩
  refine .inr ⟨[bB (dQ P c' m l [])],bW.refl _,bF (by simp;omega),by simp;omega,?_⟩
  refine adh (by kernel_rfl) ?_
  refine adh (fun _=>?_) fun h=>absurd kp (beq_eq_false_iff_ne.1 h)
  refine .inl ⟨[I (dQ P c' m l []).id],rfl,⟨aM (by simp[lf,lc,dQ]),tv⟩,(by simp;rfl),?_⟩
  refine .inr ⟨[I (dQ P c' m l []).id],bW.refl _,bI (by simp;omega),by simp;omega,?_⟩
  refine adh (by kernel_rfl) ?_
  exact ext (by kernel_rfl) rfl rfl
theorem Ga(P:PL)(c c':Ch)(m:eS)(l:List Lt)(hm:1<=m.n/\m.n<=1099511627776)(hv:0<=dX P c' m/\dX P c' m<=1099511627776)(hs:0<=P.sh/\P.sh<=12)(hf:P.fl.length<=900000/\c'.fl.length<=900000/\c'.sk.length<=900000)(fo:m.fr=0)(kp:m.to≠0)(UZ:1099511627776<dX P c' m+m.n)
 (ht:aw Tryz.prog 145 [.ptr 0 0,cP (ay m)] 14 (dP 0 0 P c) 0 [.dv (aR l),.dv (I 0)] (dP 0 0 P c')):
 aw Tryz.prog 99 [.ptr 0 0,cP (ay m)] 14 (dP 1 1 P c) 0 [.dv (I 4)] (dP 1 1 P c'):=by
 have lf:(P.fl.map bB).length=P.fl.length:=adi ..
 have lc:(c'.fl.map bB).length=c'.fl.length:=adi ..
 refine cO Tryz.func99 rfl (by kernel_rfl) ?_
 repeat refine gG ?_
 refine .inr (cl [0,1,2,3,4,5,6,7,8,9,10,11,12,13] ht (by kernel_rfl) rfl rfl ?_)
 repeat refine gG ?_
 refine adh (fun h=>(by cases h)) fun _=>?_
 refine⟨j7,eI m.it,rfl,rfl,I ((aV c'.cj m.it).getD 0),(aV c'.cj m.it).isSome,fun _=>q8 _ _,q9 _ _,rfl,?_⟩
 refine adh (by kernel_rfl) ?_
 refine adh (fun h=>?_) fun h=>?_
 rotate_left
 ·have h:(aV c'.cj m.it).isSome=true:=by simpa using h
  rw[F0 (P:=P) h]
  refine adh (fun _=>?_) fun h=>absurd fo (beq_eq_false_iff_ne.1 h)
  refine⟨fun _=>by omega,?_⟩
  refine adh (fun h=>absurd (beq_iff_eq.1 h) kp) fun _=>?_
  refine adh (fun _=>ext (by kernel_rfl) rfl rfl) fun h=>absurd UZ (adA h)
 ·have h:(aV c'.cj m.it).isSome=false:=by simpa using h
  have hh:=q8 P.cj m.it
  have hz:=q9 P.cj m.it
  rw[show(aV P.cj m.it).getD 0=dX P c' m from F1 h]at hh hz
  refine⟨j7,eI m.it,rfl,rfl,I (dX P c' m),(aV P.cj m.it).isSome,fun _=>hh,hz,rfl,?_⟩
  refine adh (by kernel_rfl) ?_
  refine adh (fun _=>?_) fun h=>absurd fo (beq_eq_false_iff_ne.1 h)
  refine⟨fun _=>by omega,?_⟩
  refine adh (fun h=>absurd (beq_iff_eq.1 h) kp) fun _=>?_
  refine adh (fun _=>ext (by kernel_rfl) rfl rfl) fun h=>absurd UZ (adA h)
end Go.Proofs.YtfpebgpgabjieaaGreatDoor
