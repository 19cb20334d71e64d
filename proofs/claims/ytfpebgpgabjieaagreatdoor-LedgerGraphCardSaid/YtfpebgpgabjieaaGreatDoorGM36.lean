import Derived.Test.YtfpebgpgabjieaaGreatDoorGM31
set_option linter.all false
open Go.TM.oA Go.TM.oB Go.TM.oC Go.TM.oD Go.TM.oE
namespace Go.Proofs.YtfpebgpgabjieaaGreatDoor
set_option maxRecDepth 100000
set_option maxHeartbeats 8000000
open Go.TM
variable [bj]
theorem QV(P:PL)(c c':Ch)(m:c5)(l:List Lt)(hm:1<=m.n/\m.n<=1099511627776)(hv:0<=dS P c' m/\dS P c' m<=1099511627776)(hs:0<=P.sh/\P.sh<=12)(hf:P.fl.length<=900000/\c'.fl.length<=900000/\c'.sk.length<=900000)(eC:m.fr≠0)(kn:m.to≠0)(eB:bz (eL P c' (m.to,m.it))=true)(hlen:¬(4096:Int)<=(eL P c' (m.to,m.it)).length)
 (ht:aj Tryz.prog 145 [.ptr 0 0,cx (aq m)] 14 (dJ 0 0 P c) 0 [.dv (aQ l),.dv (I 0)] (dJ 0 0 P c')):
 aj Tryz.prog 99 [.ptr 0 0,cx (aq m)] 14 (dJ 1 1 P c) 0 [.dv (I 0)] (dJ 1 1 P { AK P c' m (dS P c' m) l []with st:=aH c'.st (m.to,m.it) (aN (eL P c' (m.to,m.it)) ⟨(dL P c' m l []).id,0,m.n⟩) }):=by
 have lf:(P.fl.map ar).length=P.fl.length:=adO ..
 have lc:(c'.fl.map ar).length=c'.fl.length:=adO ..
 rw[show dJ 1 1 P { AK P c' m (dS P c' m) l []with st:=aH c'.st (m.to,m.it) (aN (eL P c' (m.to,m.it)) ⟨(dL P c' m l []).id,0,m.n⟩) }=_ from qF 1 1 P { c' with bZ:=aH c'.bZ m.it (dS P c' m),st:=aH c'.st (m.to,m.it) (aN (eL P c' (m.to,m.it)) ⟨(dL P c' m l []).id,0,m.n⟩) } c'.fl (dL P c' m l [])]
 have ak:=iI P (AK P c' m (dS P c' m) l []) m.to m.it
 rw[show dJ 0 0 P (AK P c' m (dS P c' m) l [])=_ from qF 0 0 P { c' with bZ:=aH c'.bZ m.it (dS P c' m) } c'.fl (dL P c' m l [])]at ak
 have lS:((eL P c' (m.to,m.it)).map ax).length=(eL P c' (m.to,m.it)).length:=adO ..
 refine cO Tryz.func99 rfl (by kernel_rfl) ?_
 repeat refine gG ?_
 refine .inr (cl [0,1,2,3,4,5,6,7,8,9,10,11,12,13] ht (by kernel_rfl) rfl rfl ?_)
 repeat refine gG ?_
 refine adN (fun h=>(by cases h)) fun _=>?_
 refine⟨gf,eI m.it,rfl,rfl,I ((aU c'.bZ m.it).getD 0),(aU c'.bZ m.it).isSome,fun _=>rk _ _,rl _ _,rfl,?_⟩
 refine adN (by kernel_rfl) ?_
 refine adN (fun h=>?_) fun h=>?_
 rotate_left
 ·have h:(aU c'.bZ m.it).isSome=true:=by simpa using h
  rw[GC (P:=P) h]
  refine adN (fun h=>absurd (beq_iff_eq.1 h) eC) fun _=>?_
  refine adN (fun h=>absurd (beq_iff_eq.1 h) kn) fun _=>?_
  refine adN (fun h=>absurd (ad5 h) (by omega)) fun _=>?_
  refine⟨gf,eI m.it,rfl,rfl,I (dS P c' m),⟨rf,tv⟩,rfl,false,fun _=>⟨mF c'.bZ _,tJ _⟩,?_⟩
  rw[show cW (j4 c'.bZ) (eI m.it) (I (dS P c' m))=j4 (aH c'.bZ m.it (dS P c' m))from cP eT c'.bZ _ _]
  refine adN (by kernel_rfl) ?_
  repeat first|refine gG ?_|refine⟨fun _=>by omega,?_⟩
  refine adN (by kernel_rfl) ?_
  repeat refine gG ?_
  refine adN (fun h=>absurd (by simp at h;exact h.1) eC) fun _=>?_
  refine .inl ⟨[ar (dL P c' m l [])],rfl,⟨aG (by simp[lf,lc,dL]),rf,rf,rf,rf,rf,rf,rf,rf,rf,DV.aL 1,tv⟩,(by simp;rfl),?_⟩
  refine .inr ⟨[ar (dL P c' m l [])],bV.refl _,bF (by simp;omega),by simp;omega,?_⟩
  refine adN (by kernel_rfl) ?_
  refine adN (fun h=>absurd (beq_iff_eq.1 h) kn) fun _=>?_
  refine .inr (cl [0,1,2,3,4,5,6,7,8,9,10,11,12,13] ak (by kernel_rfl) rfl rfl ?_)
  refine adN (fun h=>absurd (ad5 h) (by rw[show((eL P (AK P c' m (dS P c' m) l []) (m.to,m.it)).map ax).length=_ from lS];omega)) fun _=>?_
  refine .inl ⟨_,fun _=>⟨[aQ (eL P c' (m.to,m.it)),ax ⟨(dL P c' m l []).id,0,m.n⟩],⟨rf,DV.Le.of_eq (by simp[lf,lc,dL,ax]),tv⟩,kV (eL P c' (m.to,m.it)) ⟨(dL P c' m l []).id,0,m.n⟩ eB (ah.2 ⟨by simp[dL];omega,by simp,by simp;omega,by simp;omega⟩)⟩,?_⟩
  refine⟨nj,sa (m.to,m.it),rfl,rfl,aQ (aN (eL P c' (m.to,m.it)) ⟨(dL P c' m l []).id,0,m.n⟩),⟨rf,tv⟩,rfl,false,fun _=>⟨n9 c'.st _,gh _⟩,?_⟩
  rw[show cW (oZ c'.st) (sa (m.to,m.it)) (aQ (aN (eL P c' (m.to,m.it)) ⟨(dL P c' m l []).id,0,m.n⟩))=oZ (aH c'.st (m.to,m.it) (aN (eL P c' (m.to,m.it)) ⟨(dL P c' m l []).id,0,m.n⟩))from cP ja c'.st _ _]
  refine adN (by kernel_rfl) ?_
  exact ext (by kernel_rfl) rfl rfl
 ·have h:(aU c'.bZ m.it).isSome=false:=by simpa using h
  have hh:=rk P.bZ m.it
  have hz:=rl P.bZ m.it
  rw[show(aU P.bZ m.it).getD 0=dS P c' m from GD h]at hh hz
  refine⟨gf,eI m.it,rfl,rfl,I (dS P c' m),(aU P.bZ m.it).isSome,fun _=>hh,hz,rfl,?_⟩
  refine adN (by kernel_rfl) ?_
  refine adN (fun h=>absurd (beq_iff_eq.1 h) eC) fun _=>?_
  refine adN (fun h=>absurd (beq_iff_eq.1 h) kn) fun _=>?_
  refine adN (fun h=>absurd (ad5 h) (by omega)) fun _=>?_
  refine⟨gf,eI m.it,rfl,rfl,I (dS P c' m),⟨rf,tv⟩,rfl,false,fun _=>⟨mF c'.bZ _,tJ _⟩,?_⟩
  rw[show cW (j4 c'.bZ) (eI m.it) (I (dS P c' m))=j4 (aH c'.bZ m.it (dS P c' m))from cP eT c'.bZ _ _]
  refine adN (by kernel_rfl) ?_
  repeat first|refine gG ?_|refine⟨fun _=>by omega,?_⟩
  refine adN (by kernel_rfl) ?_
  repeat refine gG ?_
  refine adN (fun h=>absurd (by simp at h;exact h.1) eC) fun _=>?_
  refine .inl ⟨[ar (dL P c' m l [])],rfl,⟨aG (by simp[lf,lc,dL]),rf,rf,rf,rf,rf,rf,rf,rf,rf,DV.aL 1,tv⟩,(by simp;rfl),?_⟩
  refine .inr ⟨[ar (dL P c' m l [])],bV.refl _,bF (by simp;omega),by simp;omega,?_⟩
  refine adN (by kernel_rfl) ?_
  refine adN (fun h=>absurd (beq_iff_eq.1 h) kn) fun _=>?_
  refine .inr (cl [0,1,2,3,4,5,6,7,8,9,10,11,12,13] ak (by kernel_rfl) rfl rfl ?_)
  refine adN (fun h=>absurd (ad5 h) (by rw[show((eL P (AK P c' m (dS P c' m) l []) (m.to,m.it)).map ax).length=_ from lS];omega)) fun _=>?_
  refine .inl ⟨_,fun _=>⟨[aQ (eL P c' (m.to,m.it)),ax ⟨(dL P c' m l []).id,0,m.n⟩],⟨rf,DV.Le.of_eq (by simp[lf,lc,dL,ax]),tv⟩,kV (eL P c' (m.to,m.it)) ⟨(dL P c' m l []).id,0,m.n⟩ eB (ah.2 ⟨by simp[dL];omega,by simp,by simp;omega,by simp;omega⟩)⟩,?_⟩
  refine⟨nj,sa (m.to,m.it),rfl,rfl,aQ (aN (eL P c' (m.to,m.it)) ⟨(dL P c' m l []).id,0,m.n⟩),⟨rf,tv⟩,rfl,false,fun _=>⟨n9 c'.st _,gh _⟩,?_⟩
  rw[show cW (oZ c'.st) (sa (m.to,m.it)) (aQ (aN (eL P c' (m.to,m.it)) ⟨(dL P c' m l []).id,0,m.n⟩))=oZ (aH c'.st (m.to,m.it) (aN (eL P c' (m.to,m.it)) ⟨(dL P c' m l []).id,0,m.n⟩))from cP ja c'.st _ _]
  refine adN (by kernel_rfl) ?_
  exact ext (by kernel_rfl) rfl rfl
end Go.Proofs.YtfpebgpgabjieaaGreatDoor
