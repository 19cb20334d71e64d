import Derived.Test.YtknnpcfhekkjjaaGreatDoorFM37
set_option linter.all false
namespace Go.Proofs.YtknnpcfhekkjjaaGreatDoor
set_option maxRecDepth 100000
set_option maxHeartbeats 8000000
section
open Go.TM
variable [bG]
theorem PZ(P:PL)(c c':Ch)(m:fa)(l:List Lt)(hm:1<=m.n/\m.n<=1099511627776)(hv:0<=eH P c' m/\eH P c' m<=1099511627776)(hs:0<=P.sh/\P.sh<=12)(hf:P.fl.length<=900000/\c'.fl.length<=900000/\c'.sk.length<=900000)(dQ:m.fr=0)(ka:m.to≠0)(hk:c'.sp.kind=4\/c'.sp.kind=10)(S1:¬1099511627776<eH P c' m+m.n)(dK:cg (fy P c' (m.to,m.it))=true)(hlen:¬(4096:Int)<=(fy P c' (m.to,m.it)).length)
 (ht:ar Tryz.prog 147 [.ptr 0 0,cY (ak m)] 14 (fg 0 0 P c) 0 [.dv (aU l),.dv (I 0)] (fg 0 0 P c')):
 ar Tryz.prog 81 [.ptr 0 0,cY (ak m)] 14 (fg 1 1 P c) 0 [.dv (I 0)] (fg 1 1 P { Au P c' m (eH P c' m+m.n) l c'.sk with st:=aS c'.st (m.to,m.it) (bj (fy P c' (m.to,m.it)) ⟨(dL P c' m l c'.sk).id,0,m.n⟩) }):=by
 have lf:(P.fl.map bB).length=P.fl.length:=abH ..
 have lc:(c'.fl.map bB).length=c'.fl.length:=abH ..
 rw[show fg 1 1 P { Au P c' m (eH P c' m+m.n) l c'.sk with st:=aS c'.st (m.to,m.it) (bj (fy P c' (m.to,m.it)) ⟨(dL P c' m l c'.sk).id,0,m.n⟩) }=_ from qj 1 1 P { c' with cb:=aS c'.cb m.it (eH P c' m+m.n),st:=aS c'.st (m.to,m.it) (bj (fy P c' (m.to,m.it)) ⟨(dL P c' m l c'.sk).id,0,m.n⟩) } c'.fl (dL P c' m l c'.sk)]
 have ai:=jP P (Au P c' m (eH P c' m+m.n) l c'.sk) m.to m.it
 rw[show fg 0 0 P (Au P c' m (eH P c' m+m.n) l c'.sk)=_ from qj 0 0 P { c' with cb:=aS c'.cb m.it (eH P c' m+m.n) } c'.fl (dL P c' m l c'.sk)]at ai
 have lS:((fy P c' (m.to,m.it)).map aC).length=(fy P c' (m.to,m.it)).length:=abH ..
 refine cO Tryz.func81 rfl (by kernel_rfl) ?_
 repeat first|apply g1|apply g2|apply g3|apply g4|apply g5
 refine .inr (cl [0,1,2,3,4,5,6,7,8,9,10,11,12,13] ht (by kernel_rfl) rfl rfl ?_)
 repeat first|apply g1|apply g2|apply g3|apply g4|apply g5
 refine abG (fun h=>(by cases h)) fun _=>?_
 refine⟨kr,eI m.it,rfl,rfl,I ((aR c'.cb m.it).getD 0),(aR c'.cb m.it).isSome,fun _=>qP _ _,qQ _ _,rfl,?_⟩
 refine abG (by kernel_rfl) ?_
 refine abG (fun h=>?_) fun h=>?_
 rotate_left
 ·have h:(aR c'.cb m.it).isSome=true:=by simpa using h
  rw[F1 (P:=P) h]
  refine abG (fun _=>?_) fun h=>absurd dQ (beq_eq_false_iff_ne.1 h)
  refine⟨fun _=>⟨by omega,by omega⟩,?_⟩
  refine abG (fun h=>absurd (beq_iff_eq.1 h) ka) fun _=>?_
  refine abG (fun h=>absurd (abY h) (by omega)) fun _=>?_
  refine⟨kr,eI m.it,rfl,rfl,I (eH P c' m+m.n),⟨rf,tv⟩,rfl,false,fun _=>⟨nW c'.cb _,u9 _⟩,?_⟩
  rw[show c7 (ou c'.cb) (eI m.it) (I (eH P c' m+m.n))=ou (aS c'.cb m.it (eH P c' m+m.n))from dE jO c'.cb _ _]
  refine abG (by kernel_rfl) ?_
  repeat first|apply g1|apply g2|apply g3|apply g4|apply g5|refine⟨fun _=>⟨by omega,by omega⟩,?_⟩
  refine abG (by kernel_rfl) ?_
  repeat first|apply g1|apply g2|apply g3|apply g4|apply g5
  refine abG (fun _=>?_) fun h=>absurd h (by rcases hk with hk|hk<;>simp[dQ,hk])
  refine .inr (cl [6] (wh c'.sk (by omega)) (by kernel_rfl) rfl rfl ?_)
  refine .inl ⟨[bB (dL P c' m l c'.sk)],rfl,⟨aF (by simp[lf,lc,dL]),rf,rf,rf,rf,rf,rf,rf,rf,rf,rf,tv⟩,(by simp;rfl),?_⟩
  refine .inr ⟨[bB (dL P c' m l c'.sk)],cd.refl _,bF (by simp;omega),by simp;omega,?_⟩
  refine abG (by kernel_rfl) ?_
  refine abG (fun h=>absurd (beq_iff_eq.1 h) ka) fun _=>?_
  refine .inr (cl [0,1,2,3,4,5,6,7,8,9,10,11,12,13] ai (by kernel_rfl) rfl rfl ?_)
  refine abG (fun h=>absurd (abY h) (by rw[show((fy P (Au P c' m (eH P c' m+m.n) l c'.sk) (m.to,m.it)).map aC).length=_ from lS];omega)) fun _=>?_
  refine .inl ⟨_,fun _=>⟨[aU (fy P c' (m.to,m.it)),aC ⟨(dL P c' m l c'.sk).id,0,m.n⟩],⟨rf,DV.Le.of_eq (by simp[lf,lc,dL,aC]),tv⟩,kK (fy P c' (m.to,m.it)) ⟨(dL P c' m l c'.sk).id,0,m.n⟩ dK (ax.2 ⟨by simp[dL];omega,by simp,by simp;omega,by simp;omega⟩)⟩,?_⟩
  refine⟨mT,se (m.to,m.it),rfl,rfl,aU (bj (fy P c' (m.to,m.it)) ⟨(dL P c' m l c'.sk).id,0,m.n⟩),⟨rf,tv⟩,rfl,false,fun _=>⟨pI c'.st _,iP _⟩,?_⟩
  rw[show c7 (qO c'.st) (se (m.to,m.it)) (aU (bj (fy P c' (m.to,m.it)) ⟨(dL P c' m l c'.sk).id,0,m.n⟩))=qO (aS c'.st (m.to,m.it) (bj (fy P c' (m.to,m.it)) ⟨(dL P c' m l c'.sk).id,0,m.n⟩))from dE iO c'.st _ _]
  refine abG (by kernel_rfl) ?_
  exact ext (by kernel_rfl) rfl rfl
 ·have h:(aR c'.cb m.it).isSome=false:=by simpa using h
  have hh:=qP P.cb m.it
  have hz:=qQ P.cb m.it
  rw[show(aR P.cb m.it).getD 0=eH P c' m from F2 h]at hh hz
  refine⟨kr,eI m.it,rfl,rfl,I (eH P c' m),(aR P.cb m.it).isSome,fun _=>hh,hz,rfl,?_⟩
  refine abG (by kernel_rfl) ?_
  refine abG (fun _=>?_) fun h=>absurd dQ (beq_eq_false_iff_ne.1 h)
  refine⟨fun _=>⟨by omega,by omega⟩,?_⟩
  refine abG (fun h=>absurd (beq_iff_eq.1 h) ka) fun _=>?_
  refine abG (fun h=>absurd (abY h) (by omega)) fun _=>?_
  refine⟨kr,eI m.it,rfl,rfl,I (eH P c' m+m.n),⟨rf,tv⟩,rfl,false,fun _=>⟨nW c'.cb _,u9 _⟩,?_⟩
  rw[show c7 (ou c'.cb) (eI m.it) (I (eH P c' m+m.n))=ou (aS c'.cb m.it (eH P c' m+m.n))from dE jO c'.cb _ _]
  refine abG (by kernel_rfl) ?_
  repeat first|apply g1|apply g2|apply g3|apply g4|apply g5|refine⟨fun _=>⟨by omega,by omega⟩,?_⟩
  refine abG (by kernel_rfl) ?_
  repeat first|apply g1|apply g2|apply g3|apply g4|apply g5
  refine abG (fun _=>?_) fun h=>absurd h (by rcases hk with hk|hk<;>simp[dQ,hk])
  refine .inr (cl [6] (wh c'.sk (by omega)) (by kernel_rfl) rfl rfl ?_)
  refine .inl ⟨[bB (dL P c' m l c'.sk)],rfl,⟨aF (by simp[lf,lc,dL]),rf,rf,rf,rf,rf,rf,rf,rf,rf,rf,tv⟩,(by simp;rfl),?_⟩
  refine .inr ⟨[bB (dL P c' m l c'.sk)],cd.refl _,bF (by simp;omega),by simp;omega,?_⟩
  refine abG (by kernel_rfl) ?_
  refine abG (fun h=>absurd (beq_iff_eq.1 h) ka) fun _=>?_
  refine .inr (cl [0,1,2,3,4,5,6,7,8,9,10,11,12,13] ai (by kernel_rfl) rfl rfl ?_)
  refine abG (fun h=>absurd (abY h) (by rw[show((fy P (Au P c' m (eH P c' m+m.n) l c'.sk) (m.to,m.it)).map aC).length=_ from lS];omega)) fun _=>?_
  refine .inl ⟨_,fun _=>⟨[aU (fy P c' (m.to,m.it)),aC ⟨(dL P c' m l c'.sk).id,0,m.n⟩],⟨rf,DV.Le.of_eq (by simp[lf,lc,dL,aC]),tv⟩,kK (fy P c' (m.to,m.it)) ⟨(dL P c' m l c'.sk).id,0,m.n⟩ dK (ax.2 ⟨by simp[dL];omega,by simp,by simp;omega,by simp;omega⟩)⟩,?_⟩
  refine⟨mT,se (m.to,m.it),rfl,rfl,aU (bj (fy P c' (m.to,m.it)) ⟨(dL P c' m l c'.sk).id,0,m.n⟩),⟨rf,tv⟩,rfl,false,fun _=>⟨pI c'.st _,iP _⟩,?_⟩
  rw[show c7 (qO c'.st) (se (m.to,m.it)) (aU (bj (fy P c' (m.to,m.it)) ⟨(dL P c' m l c'.sk).id,0,m.n⟩))=qO (aS c'.st (m.to,m.it) (bj (fy P c' (m.to,m.it)) ⟨(dL P c' m l c'.sk).id,0,m.n⟩))from dE iO c'.st _ _]
  refine abG (by kernel_rfl) ?_
  exact ext (by kernel_rfl) rfl rfl
end
end Go.Proofs.YtknnpcfhekkjjaaGreatDoor
