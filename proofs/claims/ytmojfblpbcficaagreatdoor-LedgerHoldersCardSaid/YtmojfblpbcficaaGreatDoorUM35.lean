import Derived.Test.YtmojfblpbcficaaGreatDoorUM33
set_option linter.all false
open Go.TM.oA Go.TM.oB Go.TM.oC Go.TM.oD Go.TM.oE
namespace Go.Proofs.YtmojfblpbcficaaGreatDoor
set_option maxRecDepth 100000
set_option maxHeartbeats 8000000
open Go.TM
variable [bp]
theorem Rl(P:PL)(c c':Ch)(m:dc)(l:List Lt)(hm:1<=m.n/\m.n<=1099511627776)(hv:0<=dU P c' m/\dU P c' m<=1099511627776)(hs:0<=P.sh/\P.sh<=12)(hf:P.fl.length<=900000/\c'.fl.length<=900000/\c'.sk.length<=900000)(fb:m.fr≠0)(jH:m.to=0)
 (ht:aj Tryz.prog 142 [.ptr 0 0,cH (ao m)] 14 (dM 0 0 P c) 0 [.dv (aM l),.dv (I 0)] (dM 0 0 P c')):
 aj Tryz.prog 87 [.ptr 0 0,cH (ao m)] 14 (dM 1 1 P c) 0 [.dv (I 0)] (dM 1 1 P { AU P c' m (dU P c' m-m.n) l []with sk:=c'.sk++[(dN P c' m l []).id] }):=by
 have lf:(P.fl.map aG).length=P.fl.length:=WY ..
 have lc:(c'.fl.map aG).length=c'.fl.length:=WY ..
 rw[show dM 1 1 P { AU P c' m (dU P c' m-m.n) l []with sk:=c'.sk++[(dN P c' m l []).id] }=_ from UG 1 1 P { c' with b9:=aH c'.b9 m.it (dU P c' m-m.n) } c'.fl (dN P c' m l []) c'.sk (dN P c' m l []).id]
 refine cO Tryz.func87 rfl (by kernel_rfl) ?_
 repeat refine gG ?_
 refine .inr (cl [0,1,2,3,4,5,6,7,8,9,10,11,12,13] ht (by kernel_rfl) rfl rfl ?_)
 repeat refine gG ?_
 refine T5 (fun h=>(by cases h)) fun _=>?_
 refine⟨j8,eI m.it,rfl,rfl,I ((aX c'.b9 m.it).getD 0),(aX c'.b9 m.it).isSome,fun _=>rE _ _,rF _ _,rfl,?_⟩
 refine T5 (by kernel_rfl) ?_
 refine T5 (fun h=>?_) fun h=>?_
 rotate_left
 ·have h:(aX c'.b9 m.it).isSome=true:=by simpa using h
  rw[GR (P:=P) h]
  refine T5 (fun h=>absurd (beq_iff_eq.1 h) fb) fun _=>?_
  refine T5 (fun _=>?_) fun h=>absurd jH (beq_eq_false_iff_ne.1 h)
  refine⟨fun _=>by omega,?_⟩
  refine T5 (fun h=>absurd (adz h) (by omega)) fun _=>?_
  refine⟨j8,eI m.it,rfl,rfl,I (dU P c' m-m.n),⟨rf,tv⟩,rfl,false,fun _=>⟨oF c'.b9 _,vA _⟩,?_⟩
  rw[show c7 (nG c'.b9) (eI m.it) (I (dU P c' m-m.n))=nG (aH c'.b9 m.it (dU P c' m-m.n))from c5 je c'.b9 _ _]
  refine T5 (by kernel_rfl) ?_
  repeat first|refine gG ?_|refine⟨fun _=>by omega,?_⟩
  refine T5 (by kernel_rfl) ?_
  repeat refine gG ?_
  refine T5 (fun h=>absurd (by simp at h;exact h.1) fb) fun _=>?_
  refine .inl ⟨[aG (dN P c' m l [])],rfl,⟨aJ (by simp[lf,lc,dN]),rf,rf,rf,rf,rf,rf,rf,rf,rf,DV.aI 1,tv⟩,(by simp;rfl),?_⟩
  refine .inr ⟨[aG (dN P c' m l [])],b7.refl _,bF (by simp;omega),by simp;omega,?_⟩
  refine T5 (by kernel_rfl) ?_
  refine T5 (fun _=>?_) fun h=>absurd jH (beq_eq_false_iff_ne.1 h)
  refine .inl ⟨[I (dN P c' m l []).id],rfl,⟨aJ (by simp[lf,lc,dN]),tv⟩,(by simp;rfl),?_⟩
  refine .inr ⟨[I (dN P c' m l []).id],b7.refl _,bI (by simp;omega),by simp;omega,?_⟩
  refine T5 (by kernel_rfl) ?_
  exact ext (by kernel_rfl) rfl rfl
 ·have h:(aX c'.b9 m.it).isSome=false:=by simpa using h
  have hh:=rE P.b9 m.it
  have hz:=rF P.b9 m.it
  rw[show(aX P.b9 m.it).getD 0=dU P c' m from GS h]at hh hz
  refine⟨j8,eI m.it,rfl,rfl,I (dU P c' m),(aX P.b9 m.it).isSome,fun _=>hh,hz,rfl,?_⟩
  refine T5 (by kernel_rfl) ?_
  refine T5 (fun h=>absurd (beq_iff_eq.1 h) fb) fun _=>?_
  refine T5 (fun _=>?_) fun h=>absurd jH (beq_eq_false_iff_ne.1 h)
  refine⟨fun _=>by omega,?_⟩
  refine T5 (fun h=>absurd (adz h) (by omega)) fun _=>?_
  refine⟨j8,eI m.it,rfl,rfl,I (dU P c' m-m.n),⟨rf,tv⟩,rfl,false,fun _=>⟨oF c'.b9 _,vA _⟩,?_⟩
  rw[show c7 (nG c'.b9) (eI m.it) (I (dU P c' m-m.n))=nG (aH c'.b9 m.it (dU P c' m-m.n))from c5 je c'.b9 _ _]
  refine T5 (by kernel_rfl) ?_
  repeat first|refine gG ?_|refine⟨fun _=>by omega,?_⟩
  refine T5 (by kernel_rfl) ?_
  repeat refine gG ?_
  refine T5 (fun h=>absurd (by simp at h;exact h.1) fb) fun _=>?_
  refine .inl ⟨[aG (dN P c' m l [])],rfl,⟨aJ (by simp[lf,lc,dN]),rf,rf,rf,rf,rf,rf,rf,rf,rf,DV.aI 1,tv⟩,(by simp;rfl),?_⟩
  refine .inr ⟨[aG (dN P c' m l [])],b7.refl _,bF (by simp;omega),by simp;omega,?_⟩
  refine T5 (by kernel_rfl) ?_
  refine T5 (fun _=>?_) fun h=>absurd jH (beq_eq_false_iff_ne.1 h)
  refine .inl ⟨[I (dN P c' m l []).id],rfl,⟨aJ (by simp[lf,lc,dN]),tv⟩,(by simp;rfl),?_⟩
  refine .inr ⟨[I (dN P c' m l []).id],b7.refl _,bI (by simp;omega),by simp;omega,?_⟩
  refine T5 (by kernel_rfl) ?_
  exact ext (by kernel_rfl) rfl rfl
theorem GX(P:PL)(c c':Ch)(m:dc)(l:List Lt)(hm:1<=m.n/\m.n<=1099511627776)(hv:0<=dU P c' m/\dU P c' m<=1099511627776)(hs:0<=P.sh/\P.sh<=12)(hf:P.fl.length<=900000/\c'.fl.length<=900000/\c'.sk.length<=900000)(fb:m.fr=0)(jH:m.to≠0)(UJ:1099511627776<dU P c' m+m.n)
 (ht:aj Tryz.prog 142 [.ptr 0 0,cH (ao m)] 14 (dM 0 0 P c) 0 [.dv (aM l),.dv (I 0)] (dM 0 0 P c')):
 aj Tryz.prog 87 [.ptr 0 0,cH (ao m)] 14 (dM 1 1 P c) 0 [.dv (I 4)] (dM 1 1 P c'):=by
 have lf:(P.fl.map aG).length=P.fl.length:=WY ..
 have lc:(c'.fl.map aG).length=c'.fl.length:=WY ..
 refine cO Tryz.func87 rfl (by kernel_rfl) ?_
 repeat refine gG ?_
 refine .inr (cl [0,1,2,3,4,5,6,7,8,9,10,11,12,13] ht (by kernel_rfl) rfl rfl ?_)
 repeat refine gG ?_
 refine T5 (fun h=>(by cases h)) fun _=>?_
 refine⟨j8,eI m.it,rfl,rfl,I ((aX c'.b9 m.it).getD 0),(aX c'.b9 m.it).isSome,fun _=>rE _ _,rF _ _,rfl,?_⟩
 refine T5 (by kernel_rfl) ?_
 refine T5 (fun h=>?_) fun h=>?_
 rotate_left
 ·have h:(aX c'.b9 m.it).isSome=true:=by simpa using h
  rw[GR (P:=P) h]
  refine T5 (fun _=>?_) fun h=>absurd fb (beq_eq_false_iff_ne.1 h)
  refine⟨fun _=>by omega,?_⟩
  refine T5 (fun h=>absurd (beq_iff_eq.1 h) jH) fun _=>?_
  refine T5 (fun _=>ext (by kernel_rfl) rfl rfl) fun h=>absurd UJ (adA h)
 ·have h:(aX c'.b9 m.it).isSome=false:=by simpa using h
  have hh:=rE P.b9 m.it
  have hz:=rF P.b9 m.it
  rw[show(aX P.b9 m.it).getD 0=dU P c' m from GS h]at hh hz
  refine⟨j8,eI m.it,rfl,rfl,I (dU P c' m),(aX P.b9 m.it).isSome,fun _=>hh,hz,rfl,?_⟩
  refine T5 (by kernel_rfl) ?_
  refine T5 (fun _=>?_) fun h=>absurd fb (beq_eq_false_iff_ne.1 h)
  refine⟨fun _=>by omega,?_⟩
  refine T5 (fun h=>absurd (beq_iff_eq.1 h) jH) fun _=>?_
  refine T5 (fun _=>ext (by kernel_rfl) rfl rfl) fun h=>absurd UJ (adA h)
end Go.Proofs.YtmojfblpbcficaaGreatDoor
