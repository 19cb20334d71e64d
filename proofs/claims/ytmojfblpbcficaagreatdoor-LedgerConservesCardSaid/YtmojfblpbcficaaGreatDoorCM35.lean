import Derived.Test.YtmojfblpbcficaaGreatDoorCM33
set_option linter.all false
open Go.TM.oA Go.TM.oB Go.TM.oC Go.TM.oD Go.TM.oE
namespace Go.Proofs.YtmojfblpbcficaaGreatDoor
set_option maxRecDepth 100000
set_option maxHeartbeats 8000000
open Go.TM
variable [bp]
theorem Qs(P:PL)(c c':Ch)(m:di)(l:List Lt)(hm:1<=m.n/\m.n<=1099511627776)(hv:0<=dQ P c' m/\dQ P c' m<=1099511627776)(hs:0<=P.sh/\P.sh<=12)(hf:P.fl.length<=900000/\c'.fl.length<=900000/\c'.sk.length<=900000)(eZ:m.fr≠0)(jS:m.to=0)
 (ht:ao Tryz.prog 142 [.ptr 0 0,cF (aq m)] 14 (dI 0 0 P c) 0 [.dv (aS l),.dv (I 0)] (dI 0 0 P c')):
 ao Tryz.prog 87 [.ptr 0 0,cF (aq m)] 14 (dI 1 1 P c) 0 [.dv (I 0)] (dI 1 1 P { Ar P c' m (dQ P c' m-m.n) l []with sk:=c'.sk++[(dJ P c' m l []).id] }):=by
 have lf:(P.fl.map aM).length=P.fl.length:=ach ..
 have lc:(c'.fl.map aM).length=c'.fl.length:=ach ..
 rw[show dI 1 1 P { Ar P c' m (dQ P c' m-m.n) l []with sk:=c'.sk++[(dJ P c' m l []).id] }=_ from TF 1 1 P { c' with b7:=aI c'.b7 m.it (dQ P c' m-m.n) } c'.fl (dJ P c' m l []) c'.sk (dJ P c' m l []).id]
 refine cO Tryz.func87 rfl (by kernel_rfl) ?_
 repeat refine gG ?_
 refine .inr (cl [0,1,2,3,4,5,6,7,8,9,10,11,12,13] ht (by kernel_rfl) rfl rfl ?_)
 repeat refine gG ?_
 refine acg (fun h=>(by cases h)) fun _=>?_
 refine⟨jT,eI m.it,rfl,rfl,I ((aW c'.b7 m.it).getD 0),(aW c'.b7 m.it).isSome,fun _=>qZ _ _,q7 _ _,rfl,?_⟩
 refine acg (by kernel_rfl) ?_
 refine acg (fun h=>?_) fun h=>?_
 rotate_left
 ·have h:(aW c'.b7 m.it).isSome=true:=by simpa using h
  rw[Gd (P:=P) h]
  refine acg (fun h=>absurd (beq_iff_eq.1 h) eZ) fun _=>?_
  refine acg (fun _=>?_) fun h=>absurd jS (beq_eq_false_iff_ne.1 h)
  refine⟨fun _=>by omega,?_⟩
  refine acg (fun h=>absurd (acA h) (by omega)) fun _=>?_
  refine⟨jT,eI m.it,rfl,rfl,I (dQ P c' m-m.n),⟨rf,tv⟩,rfl,false,fun _=>⟨oa c'.b7 _,uS _⟩,?_⟩
  rw[show cR (nv c'.b7) (eI m.it) (I (dQ P c' m-m.n))=nv (aI c'.b7 m.it (dQ P c' m-m.n))from cY iT c'.b7 _ _]
  refine acg (by kernel_rfl) ?_
  repeat first|refine gG ?_|refine⟨fun _=>by omega,?_⟩
  refine acg (by kernel_rfl) ?_
  repeat refine gG ?_
  refine acg (fun h=>absurd (by simp at h;exact h.1) eZ) fun _=>?_
  refine .inl ⟨[aM (dJ P c' m l [])],rfl,⟨aF (by simp[lf,lc,dJ]),rf,rf,rf,rf,rf,rf,rf,rf,rf,DV.aK 1,tv⟩,(by simp;rfl),?_⟩
  refine .inr ⟨[aM (dJ P c' m l [])],ca.refl _,bF (by simp;omega),by simp;omega,?_⟩
  refine acg (by kernel_rfl) ?_
  refine acg (fun _=>?_) fun h=>absurd jS (beq_eq_false_iff_ne.1 h)
  refine .inl ⟨[I (dJ P c' m l []).id],rfl,⟨aF (by simp[lf,lc,dJ]),tv⟩,(by simp;rfl),?_⟩
  refine .inr ⟨[I (dJ P c' m l []).id],ca.refl _,bI (by simp;omega),by simp;omega,?_⟩
  refine acg (by kernel_rfl) ?_
  exact ext (by kernel_rfl) rfl rfl
 ·have h:(aW c'.b7 m.it).isSome=false:=by simpa using h
  have hh:=qZ P.b7 m.it
  have hz:=q7 P.b7 m.it
  rw[show(aW P.b7 m.it).getD 0=dQ P c' m from Ge h]at hh hz
  refine⟨jT,eI m.it,rfl,rfl,I (dQ P c' m),(aW P.b7 m.it).isSome,fun _=>hh,hz,rfl,?_⟩
  refine acg (by kernel_rfl) ?_
  refine acg (fun h=>absurd (beq_iff_eq.1 h) eZ) fun _=>?_
  refine acg (fun _=>?_) fun h=>absurd jS (beq_eq_false_iff_ne.1 h)
  refine⟨fun _=>by omega,?_⟩
  refine acg (fun h=>absurd (acA h) (by omega)) fun _=>?_
  refine⟨jT,eI m.it,rfl,rfl,I (dQ P c' m-m.n),⟨rf,tv⟩,rfl,false,fun _=>⟨oa c'.b7 _,uS _⟩,?_⟩
  rw[show cR (nv c'.b7) (eI m.it) (I (dQ P c' m-m.n))=nv (aI c'.b7 m.it (dQ P c' m-m.n))from cY iT c'.b7 _ _]
  refine acg (by kernel_rfl) ?_
  repeat first|refine gG ?_|refine⟨fun _=>by omega,?_⟩
  refine acg (by kernel_rfl) ?_
  repeat refine gG ?_
  refine acg (fun h=>absurd (by simp at h;exact h.1) eZ) fun _=>?_
  refine .inl ⟨[aM (dJ P c' m l [])],rfl,⟨aF (by simp[lf,lc,dJ]),rf,rf,rf,rf,rf,rf,rf,rf,rf,DV.aK 1,tv⟩,(by simp;rfl),?_⟩
  refine .inr ⟨[aM (dJ P c' m l [])],ca.refl _,bF (by simp;omega),by simp;omega,?_⟩
  refine acg (by kernel_rfl) ?_
  refine acg (fun _=>?_) fun h=>absurd jS (beq_eq_false_iff_ne.1 h)
  refine .inl ⟨[I (dJ P c' m l []).id],rfl,⟨aF (by simp[lf,lc,dJ]),tv⟩,(by simp;rfl),?_⟩
  refine .inr ⟨[I (dJ P c' m l []).id],ca.refl _,bI (by simp;omega),by simp;omega,?_⟩
  refine acg (by kernel_rfl) ?_
  exact ext (by kernel_rfl) rfl rfl
theorem Gj(P:PL)(c c':Ch)(m:di)(l:List Lt)(hm:1<=m.n/\m.n<=1099511627776)(hv:0<=dQ P c' m/\dQ P c' m<=1099511627776)(hs:0<=P.sh/\P.sh<=12)(hf:P.fl.length<=900000/\c'.fl.length<=900000/\c'.sk.length<=900000)(eZ:m.fr=0)(jS:m.to≠0)(TJ:1099511627776<dQ P c' m+m.n)
 (ht:ao Tryz.prog 142 [.ptr 0 0,cF (aq m)] 14 (dI 0 0 P c) 0 [.dv (aS l),.dv (I 0)] (dI 0 0 P c')):
 ao Tryz.prog 87 [.ptr 0 0,cF (aq m)] 14 (dI 1 1 P c) 0 [.dv (I 4)] (dI 1 1 P c'):=by
 have lf:(P.fl.map aM).length=P.fl.length:=ach ..
 have lc:(c'.fl.map aM).length=c'.fl.length:=ach ..
 refine cO Tryz.func87 rfl (by kernel_rfl) ?_
 repeat refine gG ?_
 refine .inr (cl [0,1,2,3,4,5,6,7,8,9,10,11,12,13] ht (by kernel_rfl) rfl rfl ?_)
 repeat refine gG ?_
 refine acg (fun h=>(by cases h)) fun _=>?_
 refine⟨jT,eI m.it,rfl,rfl,I ((aW c'.b7 m.it).getD 0),(aW c'.b7 m.it).isSome,fun _=>qZ _ _,q7 _ _,rfl,?_⟩
 refine acg (by kernel_rfl) ?_
 refine acg (fun h=>?_) fun h=>?_
 rotate_left
 ·have h:(aW c'.b7 m.it).isSome=true:=by simpa using h
  rw[Gd (P:=P) h]
  refine acg (fun _=>?_) fun h=>absurd eZ (beq_eq_false_iff_ne.1 h)
  refine⟨fun _=>by omega,?_⟩
  refine acg (fun h=>absurd (beq_iff_eq.1 h) jS) fun _=>?_
  refine acg (fun _=>ext (by kernel_rfl) rfl rfl) fun h=>absurd TJ (acB h)
 ·have h:(aW c'.b7 m.it).isSome=false:=by simpa using h
  have hh:=qZ P.b7 m.it
  have hz:=q7 P.b7 m.it
  rw[show(aW P.b7 m.it).getD 0=dQ P c' m from Ge h]at hh hz
  refine⟨jT,eI m.it,rfl,rfl,I (dQ P c' m),(aW P.b7 m.it).isSome,fun _=>hh,hz,rfl,?_⟩
  refine acg (by kernel_rfl) ?_
  refine acg (fun _=>?_) fun h=>absurd eZ (beq_eq_false_iff_ne.1 h)
  refine⟨fun _=>by omega,?_⟩
  refine acg (fun h=>absurd (beq_iff_eq.1 h) jS) fun _=>?_
  refine acg (fun _=>ext (by kernel_rfl) rfl rfl) fun h=>absurd TJ (acB h)
end Go.Proofs.YtmojfblpbcficaaGreatDoor
