import Derived.Test.YtknnpcfhekkjjaaGreatDoorFM25
set_option linter.all false
namespace Go.Proofs.YtknnpcfhekkjjaaGreatDoor
set_option maxRecDepth 100000
set_option maxHeartbeats 2000000
open Go.TM
variable [bG]
def wK(it:Int):Bool:=it==0||it==2
theorem LP(R:RL)(k:Int)(m:fa)(dQ:0<m.fr)(hp:m.ps≠[])(hn:R.st.length<=100000)(ho:(b5 R.st (m.fr,m.it)).length<=5000)(hl:m.ps.length<=5000)(aV:m.ps.length*((b5 R.st (m.fr,m.it)).length+1)<=90000)(hsy:(b5 R.st (m.fr,m.it)).length*(m.ps.length+1)<=90000):ar Tryz.prog 87 [.ptr 0 0,.dv (I k),cY (ak m)] 4 (dU R) 0 [.dv (aU (bif td m.ps (b5 R.st (m.fr,m.it))then m.ps else[])),.dv (I (bif td m.ps (b5 R.st (m.fr,m.it))then 0 else 10))] (bif td m.ps (b5 R.st (m.fr,m.it))then jN 1 0 0 (uZ R (m.fr,m.it) (J8 (b5 R.st (m.fr,m.it)) m.ps))else dU R):=by
 refine cO Tryz.func87 rfl (by kernel_rfl) ?_
 have KP:=List.length_pos_iff.2 hp
 have lp:(m.ps.map aC).length=m.ps.length:=abH ..
 refine abG (fun _=>?_) fun h=>by have:=abZ h;omega
 refine .inr (cl [0,1,2,3] (ic R m.fr m.it hn) (by kernel_rfl) rfl rfl ?_)
 refine abG (fun _=>?_) fun h=>by have:=abZ h;omega
 refine .inl ⟨_,fun _=>(vW m.ps (b5 R.st (m.fr,m.it)) hl ho aV).ok,?_⟩
 generalize td m.ps (b5 R.st (m.fr,m.it))=w at*
 cases w with
 |false=>
  refine abG (fun _=>?_) fun h=>by cases h
  exact⟨_,_,⟨rfl,rfl⟩,by kernel_rfl,⟨DV.aK 3,rf,tv⟩,bp (k:=dU R) rfl⟩
 |true=>
  refine abG (fun h=>by cases h) fun _=>?_
  refine .inl ⟨_,fun _=>(tc (b5 R.st (m.fr,m.it)) m.ps ho hl hsy).ok,?_⟩
  refine .inr (cl [0,1,2,3] (nS R m.fr m.it (J8 (b5 R.st (m.fr,m.it)) m.ps) hn) (by kernel_rfl) rfl rfl ?_)
  refine⟨by kernel_rfl,?_⟩
  exact ext (by kernel_rfl) rfl rfl
theorem LQ(R:RL)(k:Int)(m:fa)(dQ:0<m.fr)(hp:m.ps=[])(hi:0<=m.it/\m.it<5)(hm:0<=m.n/\m.n<=1099511627776)(hn:R.st.length<=100000)(hv:cg (b5 R.st (m.fr,m.it))=true):ar Tryz.prog 87 [.ptr 0 0,.dv (I k),cY (ak m)] 4 (dU R) 0 [.dv (aU (bif decide (b9 (b5 R.st (m.fr,m.it))<m.n)then[]else(fW (b5 R.st (m.fr,m.it)) m.n (wK m.it)).1)),.dv (I (bif decide (b9 (b5 R.st (m.fr,m.it))<m.n)then 10 else 0))] (bif decide (b9 (b5 R.st (m.fr,m.it))<m.n)then dU R else jN 1 0 0 (uZ R (m.fr,m.it) (fW (b5 R.st (m.fr,m.it)) m.n (wK m.it)).2)):=by
 rcases m with⟨fr,to,it,n,ps⟩
 dsimp only at*
 subst hp
 have:it=0\/it=1\/it=2\/it=3\/it=4:=by omega
 have ht:=fun x=>(H5 (b5 R.st (fr,it)) n x hm hv).ok
 unfold Fu at ht
 have hs:=nS R fr it
 cases hc:decide (b9 (b5 R.st (fr,it))<n)<;>rw[hc]at ht
 ·rcases this with rfl|rfl|rfl|rfl|rfl
  all_goals
   refine cO Tryz.func87 rfl (by kernel_rfl) ?_
   refine abG (fun _=>?_) fun h=>absurd dQ (abZ h)
   refine .inr (cl [0,1,2,3] (ic R fr _ hn) (by kernel_rfl) rfl rfl ?_)
   refine abG (fun h=>by have:=abY h;simp at this) fun _=>?_
   refine⟨_,fun _=>⟨abY rfl,rfl⟩,?_⟩
   refine .inl ⟨_,fun _=>ht _,?_⟩
   refine⟨by kernel_rfl,?_⟩
   refine abG (fun h=>by cases h) fun _=>?_
   refine .inr (cl [0,1,2,3] (hs _ hn) (by kernel_rfl) rfl rfl ?_)
   exact ext (by kernel_rfl) rfl rfl
 ·rcases this with rfl|rfl|rfl|rfl|rfl
  all_goals
   refine cO Tryz.func87 rfl (by kernel_rfl) ?_
   refine abG (fun _=>?_) fun h=>absurd dQ (abZ h)
   refine .inr (cl [0,1,2,3] (ic R fr _ hn) (by kernel_rfl) rfl rfl ?_)
   refine abG (fun h=>by have:=abY h;simp at this) fun _=>?_
   refine⟨_,fun _=>⟨abY rfl,rfl⟩,?_⟩
   refine .inl ⟨_,fun _=>ht _,?_⟩
   refine⟨by kernel_rfl,?_⟩
   refine abG (fun _=>?_) fun h=>by cases h
   exact⟨_,_,⟨rfl,rfl⟩,by kernel_rfl,⟨DV.aK 3,rf,tv⟩,bp (k:=dU R) rfl⟩
theorem LR(R:RL)(k:Int)(m:fa)(dQ:¬0<m.fr)(hl:m.ps.length<=5000)(hf:R.fl.length<=1000000)(lP:∀f∈R.fl,f.ps.length<=200)(hb:k=5->∀x∈m.ps,0<=x.f/\x.f<=9223372036854775807):ar Tryz.prog 87 [.ptr 0 0,.dv (I k),cY (ak m)] 4 (dU R) 0 [.dv (aU (if k=5\/k=9 then m.ps else[])),.dv (I (if k=5 then u5 R.sh R.fl m.ps else if k=9 then u6 R.fl m.it m.ps else 0))] (dU R):=by
 refine cO Tryz.func87 rfl (by kernel_rfl) ?_
 refine abG (fun h=>absurd (abY h) dQ) fun _=>?_
 refine abG ?_ ?_
 ·intro h
  have h:k=5:=by simpa using h
  subst h
  refine .inr (cl [0,1,2,3] (LN R m.ps hl hf lP (hb rfl)) (by kernel_rfl) rfl rfl ?_)
  refine⟨by kernel_rfl,?_⟩
  exact ext (by kernel_rfl) rfl rfl
 intro h
 have h5:k≠5:=by simpa using h
 refine abG ?_ ?_
 ·intro h
  have h:k=9:=by simpa using h
  subst h
  refine .inr (cl [0,1,2,3] (LO R m hl hf lP) (by kernel_rfl) rfl rfl ?_)
  refine⟨by kernel_rfl,?_⟩
  exact ext (by kernel_rfl) rfl rfl
 ·intro h
  have h9:k≠9:=by simpa using h
  rw[if_neg (show¬(k=5\/k=9)by omega),if_neg h5,if_neg h9]
  exact⟨_,_,⟨rfl,rfl⟩,by kernel_rfl,⟨DV.aK 3,rf,tv⟩,bp (k:=dU R) rfl⟩
end Go.Proofs.YtknnpcfhekkjjaaGreatDoor
