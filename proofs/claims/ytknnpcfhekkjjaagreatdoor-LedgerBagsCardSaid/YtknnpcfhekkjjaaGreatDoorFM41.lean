import Derived.Test.YtknnpcfhekkjjaaGreatDoorFM39
import Derived.Test.YtknnpcfhekkjjaaGreatDoorFM40
import Derived.Test.YtknnpcfhekkjjaaGreatDoorFM22
import Derived.Test.YtknnpcfhekkjjaaGreatDoorCards
import Derived.Test.YtknnpcfhekkjjaaGreatDoorTie
import Derived.WalkKit
import Derived.ProofKit
import Derived.OpenShut
import Derived.JoinedCond
import Derived.Carry
import Derived.ChangeSlices
import Derived.Deep.DeepHandedRow
import Derived.Lib.LaidTab
set_option linter.all false
namespace Go.Proofs.YtknnpcfhekkjjaaGreatDoor
set_option maxRecDepth 100000
set_option maxHeartbeats 40000000
section
open Go.TM
def WD(P:PL)(R:RL):ae:=[(1,.tree 0 0 (.omap eX (qO P.st))),(2,.tree 0 0 (.omap cH (ou P.cb))),(3,.tree 0 0 (.omap cH (qA P.imp))),(4,.tree 0 0 (.omap cH (qA P.ret))),(5,.cells (.dv (I P.sh)::fc jc++[.own 1 0 0 [],.own 2 0 0 [],.own 8 0 0 [],.own 9 0 0 [],.own 3 0 0 [],.own 4 0 0 []])),(7,.cells (.dv (I R.sh)::fc jc++[.own 10 0 0 [],.own 11 0 0 [],.own 12 0 0 []])),(8,.tree 0 0 (.aB 7 (P.sp.map aP))),(9,.tree 0 0 (.aB 11 (P.fl.map bB))),(10,.tree 0 0 (.aB 3 (R.st.map j8))),(11,.tree 0 0 (.aB 11 (R.fl.map bB))),(12,.tree 0 0 (.aB 7 (R.sp.map aP)))]
structure LB(P:PL)(R:RL)(c:Nat):Prop where
 inv:Inv P R
 sp:R.sp.length<=c
 now:QB R
 tb:∀j,cE R.st j<=50*c
theorem LB.mono{P:PL}{R:RL}{c:Nat}(h:LB P R c):LB P R (c+1):=⟨h.inv,by have:=h.sp;omega,h.now,fun j=>by have:=h.tb j;omega⟩
theorem LB.mv{P:PL}{R:RL}{c:Nat}(h:LB P R c)(hc:c<=30)(n:List Int)(p:Int):(∀m∈(ey R n p).mv,Ap R.sh (ey R n p) m)/\iM (dS R.sp) (ey R n p)=true/\R.fl.length+(ey R n p).mv.length<=160/\(ey R n p).mv.length<=3:=by
 have hp:=Qy h.inv.nX h.now n p
 have hx:=DD R n p h.inv.nX.sh
 have:=h.inv.Zx;have:=h.sp;have:=hx.len
 exact⟨(DE (IL hx)).pos hp,hp,by omega,by omega⟩
theorem LB.next{P P':PL}{R:RL}{c:Nat}(h:LB P R c)(hc:c<=30)(n:List Int)(p:Int)(hi:Inv P' (GN R (ey R n p))):LB P' (GN R (ey R n p)) (c+1):=by
 obtain⟨h1,h2,h3,h4⟩:=h.mv hc n p
 refine⟨hi,?_,IP n p,fun j=>?_⟩
 ·show(R.sp++[_]).length<=_
  have:=h.sp;simp;omega
 ·have h5:=QA h.inv.nX h3 h1 (Kt R n p) (ey R n p).mv.length j
  have h6:=h.tb j
  show cE (cI R (ey R n p) (ey R n p).mv.length).2.st j<=_
  omega
theorem lb0:LB ⟨0,[],[],[],[],[],[]⟩ ⟨0,[],[],[]⟩ 0:=⟨ZM ⟨by omega,by omega⟩,by simp,by unfold QB;decide,fun j=>by simp[cE]⟩
def bgC(R:RL):Nat->List AV
 |0=>[.dv .az,.dv .az,.dv .az,.dv .az,.dv .az,.dv .az]
 |1=>[.dv .az,.dv .az,.dv .az,.dv .az,.dv .az,.dv .az]
 |2=>[.dv .az,.dv (Ints (bH R 1)),.dv .az,.dv .az,.dv .az,.dv .az]
 |3=>[.dv .az,.dv (Ints (bH R 1)),.dv (Ints (bH R 2)),.dv .az,.dv .az,.dv .az]
 |4=>[.dv .az,.dv (Ints (bH R 1)),.dv (Ints (bH R 2)),.dv (Ints (bH R 3)),.dv .az,.dv .az]
 |5=>[.dv .az,.dv (Ints (bH R 1)),.dv (Ints (bH R 2)),.dv (Ints (bH R 3)),.dv (Ints (bH R 4)),.dv .az]
 |_=>[.dv .az,.dv (Ints (bH R 1)),.dv (Ints (bH R 2)),.dv (Ints (bH R 3)),.dv (Ints (bH R 4)),.dv (Ints (bH R 5))]
theorem pN(R:RL)(a:Int){j:Nat}(hj:j<5):((bH R a).take j).map I++[I (cQ R a j)]=((bH R a).take (j+1)).map I:=by
 have h:(bH R a)[j]?=some (cQ R a j):=Ku (cQ R a) (k:=j) (by omega)
 rw[abR,h,ab0];rfl
theorem mi(R:RL)(a:Int){j:Nat}(hj:j<5)(x:DV):(((bH R a).take j).map I).length+[x].length=j+1:=by
 have:(bH R a).length=5:=rfl
 simp;omega
def Rf(P:PL)(R:RL)(s:dW)(k:List Int)(i a j:Nat):cG:=⟨16,[(1,.dv (Ints k)),(5,.ptr 5 0),(6,.ptr 7 0),(14,.dv (I i)),(15,.ptr 13 0),(16,.sle 14 6),(17,.dv (I a)),(18,.dv (I j))],WD P R++[(13,.cells (fc (aP s).cells)),(14,.cells ((bgC R a).set a (.own 15 0 0 []))),(15,.tree 0 0 (.aB 1 (((bH R a).take j).map I)))]⟩
theorem okB{R:RL}(hG:Good R)(a:Int):∀x∈bH R a,xh x:=Gp fun j _ _=>vd hG a j
theorem okM{it n:Int}(hi:0<=it/\it<5)(hn:1<=n/\n<=1099511627776):∀x∈MP it n,xh x:=by
 rw[DF n hi]
 exact Gp fun j _ _=>by unfold xh;split<;>omega
theorem ZS(b:Bool):¬((bif b then false else false)=true):=by cases b<;>simp
theorem Ms{b:Bool}(h:(bif b then true else false)=true):b=true:=by cases b<;>simp_all
theorem Mt{b:Bool}(h:(bif b then true else false)=false):b=false:=by cases b<;>simp_all
theorem QE{A C:RL}{a:Int}(h:bH A a=bH C a):(Ints (bH A a)).Le (Ints (bH C a)):=h▸DV.Le.refl _
abbrev QF(R:RL)(j:Nat):Nat×Bool×List Int×List Int×List Int×List Int×List Int:=(j+1,false,bH R 1,bH R 2,bH R 3,bH R 4,bH R 5)
variable [bG]
theorem Th{R:RL}(hG:Good R)(a:Int){it n:Int}(hi:0<=it/\it<5)(hn:1<=n/\n<=1099511627776):
 (cQ R a it<n->aI Tryz.prog 19 [Ints (bH R a),Ints (MP it n)] [.az,I 10])/\(¬cQ R a it<n->aI Tryz.prog 19 [Ints (bH R a),Ints (MP it n)] [Ints (List.zipWith (·-·) (bH R a) (MP it n)),I 0]):=by
 have e:=DF n hi
 have hM:=okM hi hn
 have hb:=vd hG a
 rw[e]at hM⊢
 refine⟨fun h=>Tf _ _ rfl (fun h=>by cases h) (by simp[qB]) (okB hG a) hM (q:=it.toNat) (by simp[bH,qB];omega) (fun i x y uY hx hy=>?_) fun x y hx hy=>?_,fun h=>Te _ _ rfl (fun h=>by cases h) (by simp[qB]) (okB hG a) hM fun i x y uY hx hy=>?_⟩
 ·obtain⟨q1,rfl⟩:=iQ hx
  obtain⟨_,rfl⟩:=iQ hy
  have:=hb (i:Int)
  rw[if_neg (by omega)];omega
 ·obtain⟨q1,rfl⟩:=iQ hx
  obtain⟨_,rfl⟩:=iQ hy
  rw[if_pos (by omega),show((it.toNat:Nat):Int)=it by omega];exact h
 ·obtain⟨q1,rfl⟩:=iQ hx
  obtain⟨_,rfl⟩:=iQ hy
  have:=hb (i:Int)
  split
  ·rename_i e;rw[e];omega
  ·omega
theorem Ti{R:RL}(hG:Good R)(a:Int){it n:Int}(hi:0<=it/\it<5)(hn:1<=n/\n<=1099511627776)(h:cQ R a it+n<=1099511627776):aI Tryz.prog 20 [Ints (bH R a),Ints (MP it n)] [Ints (List.zipWith (·+·) (bH R a) (MP it n)),I 0]:=by
 have hM:=okM hi hn
 have hb:=vd hG a
 rw[DF n hi]at hM⊢
 refine Tg _ _ rfl (fun h=>by cases h) (by simp[qB]) (okB hG a) hM fun i x y hx hy=>?_
 obtain⟨q1,rfl⟩:=iQ hx
 obtain⟨_,rfl⟩:=iQ hy
 have:=hb (i:Int)
 unfold xh
 split
 ·rename_i e;rw[e]at this⊢;omega
 ·omega
theorem Mu(hLv:aI Tryz.prog 12 [] [B true])(n k:List Int):aI Tryz.prog 4 [Ints n,Ints k] [B true]:=by
 refine pO Tryz.func4 rfl (by kernel_rfl) rfl ?_
 refine .inr (cl [] (Mm 0) (by kernel_rfl) rfl rfl ?_)
 refine abG (fun h=>by cases h) fun _=>?_
 refine⟨Nat×PL×RL,fun x=>⟨13,[(0,.dv (Ints n)),(1,.dv (Ints k)),(5,.ptr 5 0),(6,.ptr 7 0),(8,.dv (I x.1))],WD x.2.1 x.2.2⟩,fun x=>x.1<=16/\LB x.2.1 x.2.2 x.1,fun x=>16-x.1,(0,⟨0,[],[],[],[],[],[]⟩,⟨0,[],[],[]⟩),fun _=>rfl,?_,⟨by simp,lb0⟩,?_⟩
 ·refine⟨⟨rf,rf,rfl,rfl,rf,tv⟩,?_,rfl,rfl⟩
  repeat' first|exact trivial|rfl|exact rf|exact⟨rfl,rfl,rfl,rfl,_,rfl⟩|exact⟨rfl,rfl,_,rfl⟩|refine abG ?_ ?_
 rintro⟨i,P,R⟩ ⟨hi,hI⟩
 simp only at hi hI
 refine abG (fun h=>?_) fun h=>?_
 ·have au:i<16:=by have:=abY h;omega
  have hG:=hI.inv.nX
  refine⟨fun _=>⟨by omega,by omega⟩,?_⟩
  refine .inr (cl [7,10,11,12] (BQ R n (6*i) ⟨by omega,by omega⟩ hG.rg) (by kernel_rfl) rfl rfl ?_)
  have dZ:=IL (DD R n (6*i) hG.sh)
  have hnb:=fun P' vu=>hI.next (P':=P') (by omega) n (6*i) vu
  generalize ey R n (6*i)=s at*
  have hss:=mV tH hI.inv (by have:=hI.sp;omega) (DE dZ)
  generalize tE R s=e at*
  generalize GN R s=R' at*
  generalize R.sh*4294967296+(R.sp.length:Int)=x at*
  rcases hss with⟨he,h2,h3⟩|⟨_,P',WE,h2,h3⟩
  ·refine .inr (cl [5,1,2,8,9,3,4] h2 (by kernel_rfl) rfl rfl ?_)
   rcases h3 with h3|h3
   all_goals
    refine .inr (cl [7,10,11,12] h3 (by kernel_rfl) rfl rfl ?_)
    refine abG (fun h=>absurd h (by simp)) fun _=>?_
    exact⟨fun _=>⟨by omega,by omega⟩,(i+1,P,R),jn rfl rfl rfl rfl,⟨au,hI.mono⟩,mlt au⟩
  ·refine .inr (cl [5,1,2,8,9,3,4] h2 (by kernel_rfl) rfl rfl ?_)
   refine .inr (cl [7,10,11,12] h3 (by kernel_rfl) rfl rfl ?_)
   refine abG (fun h=>by cases h) fun _=>?_
   exact⟨fun _=>⟨by omega,by omega⟩,(i+1,P',R'),jn rfl rfl rfl rfl,⟨au,hnb P' WE⟩,mlt au⟩
 obtain rfl:i=16:=by have:=abZ h;omega
 refine⟨Nat×PL×RL,fun x=>⟨13,[(1,.dv (Ints k)),(5,.ptr 5 0),(6,.ptr 7 0),(14,.dv (I x.1))],WD x.2.1 x.2.2⟩,fun x=>x.1<=6/\LB x.2.1 x.2.2 (16+x.1),fun x=>6-x.1,(0,P,R),fun _=>rfl,jn rfl rfl rfl rfl,⟨abW _,hI⟩,?_⟩
 clear hI hi h P R
 rintro⟨i,P,R⟩ ⟨hi,hI⟩
 simp only at hi hI
 refine abG (fun h=>?_) fun h=>?_
 rotate_left
 ·refine .inl ⟨_,fun _=>hLv.ok,?_⟩
  exact⟨rf,tv⟩
 have au:i<6:=by have:=abY h;omega
 have hG:=hI.inv.nX
 refine⟨fun _=>⟨by omega,by omega⟩,?_⟩
 refine .inr (cl [7,10,11,12] (BQ R k (6*i) ⟨by omega,by omega⟩ hG.rg) (by kernel_rfl) rfl rfl ?_)
 have GI:=DD R k (6*i) hG.sh
 have dZ:=IL GI
 have hnb:=fun P' vu=>hI.next (P':=P') (by omega) k (6*i) vu
 have F7:=hI.mv (by omega) k (6*i)
 have hw:=Kt R k (6*i)
 generalize ey R k (6*i)=s at*
 have hss:=mV tH hI.inv (by have:=hI.sp;omega) (DE dZ)
 refine abG (fun hk=>?_) fun hk=>?_
 ·exact⟨fun _=>⟨by omega,by omega⟩,(i+1,P,R),jn rfl rfl rfl rfl,⟨au,hI.mono⟩,mlt au⟩
 have h5:s.kind≠5:=by simpa using hk
 have QG:∀a j,ar Tryz.prog 17 [.ptr 0 0,.dv (I a),.dv (I j)] 7 (kJ P) 0 [.dv (I (cQ R a j))] (kJ P):=fun a j=>by
  have hS:=hG.th (a,j)
  have oH:=hG.fl
  have:=BI P a j (by rw[hI.inv.th];omega) (by rw[hI.inv.th];exact fun x hx=>mR (hS.1 x hx))
  rw[hI.inv.th,<-lx (gz hS.1 (by omega))]at this
  exact this
 refine Or.inr ?_
 refine Or.inr ?_
 have hG':=hG
 refine⟨Nat,fun a=>⟨15,[(1,.dv (Ints k)),(5,.ptr 5 0),(6,.ptr 7 0),(14,.dv (I i)),(15,.ptr 13 0),(16,.sle 14 6),(17,.dv (I a))],WD P R++[(13,.cells (fc (aP s).cells)),(14,.cells (bgC R a))]⟩,fun a=>1<=a/\a<=6,fun a=>6-a,1,fun a=>by rcases a with _|_|_|_|_|_|a<;>rfl,jn rfl rfl rfl rfl,⟨by omega,by omega⟩,?_⟩
 rintro a ⟨ha1,ha6⟩
 refine abG (fun h=>?_) fun h=>?_
 ·have ha:a=1\/a=2\/a=3\/a=4\/a=5:=by have:=abY h;omega
  rcases ha with rfl|rfl|rfl|rfl|rfl
  ·refine⟨Nat,fun j=>Rf P R s k i 1 j,fun j=>j<=5,fun j=>5-j,0,fun _=>rfl,?_,abW _,fun j hj=>abG (fun h=>?_) fun h=>?_⟩
   ·refine⟨⟨rf,rfl,rfl,rf,rfl,rfl,rf,rf,tv⟩,?_,rfl,rfl⟩
    repeat' first|exact trivial|rfl|exact rf|exact⟨rfl,rfl,rfl,rfl,_,rfl⟩|exact⟨rfl,rfl,_,rfl⟩|refine abG ?_ ?_
   ·have qT:j<5:=by have:=abY h;omega
    refine⟨fun _=>⟨by decide,by decide⟩,?_⟩
    refine .inr (cl [5,1,2,8,9,3,4] (QG _ _) (by kernel_rfl) rfl rfl ?_)
    refine .inl ⟨[I (cQ R 1 j)],rfl,⟨rf,tv⟩,(by simp;rfl),?_⟩
    refine .inr ⟨[I (cQ R 1 j)],cd.refl _,by rw[mi R _ qT];exact bI (n:=j+1) (by omega),by rw[mi R _ qT];omega,?_⟩
    refine⟨fun _=>⟨by decide,by decide⟩,by kernel_rfl,fun _=>⟨by omega,by omega⟩,j+1,jn rfl ?_ rfl rfl,qT,mlt qT⟩
    simp only[Rf]
    rw[<-pN R ((1:Nat):Int) qT];rfl
   ·obtain rfl:j=5:=by have:=abZ h;omega
    refine⟨fun _=>⟨by decide,by decide⟩,2,⟨⟨rf,rfl,rfl,rf,rfl,rfl,rf,tv⟩,?_,rfl,rfl⟩,⟨by omega,by omega⟩,by decide⟩
    repeat' first|exact trivial|rfl|exact rf|exact WC (bH R _)|refine abG ?_ ?_
  ·refine⟨Nat,fun j=>Rf P R s k i 2 j,fun j=>j<=5,fun j=>5-j,0,fun _=>rfl,?_,abW _,fun j hj=>abG (fun h=>?_) fun h=>?_⟩
   ·refine⟨⟨rf,rfl,rfl,rf,rfl,rfl,rf,rf,tv⟩,?_,rfl,rfl⟩
    repeat' first|exact trivial|rfl|exact rf|exact⟨rfl,rfl,rfl,rfl,_,rfl⟩|exact⟨rfl,rfl,_,rfl⟩|refine abG ?_ ?_
   ·have qT:j<5:=by have:=abY h;omega
    refine⟨fun _=>⟨by decide,by decide⟩,?_⟩
    refine .inr (cl [5,1,2,8,9,3,4] (QG _ _) (by kernel_rfl) rfl rfl ?_)
    refine .inl ⟨[I (cQ R 2 j)],rfl,⟨rf,tv⟩,(by simp;rfl),?_⟩
    refine .inr ⟨[I (cQ R 2 j)],cd.refl _,by rw[mi R _ qT];exact bI (n:=j+1) (by omega),by rw[mi R _ qT];omega,?_⟩
    refine⟨fun _=>⟨by decide,by decide⟩,by kernel_rfl,fun _=>⟨by omega,by omega⟩,j+1,jn rfl ?_ rfl rfl,qT,mlt qT⟩
    simp only[Rf]
    rw[<-pN R ((2:Nat):Int) qT];rfl
   ·obtain rfl:j=5:=by have:=abZ h;omega
    refine⟨fun _=>⟨by decide,by decide⟩,3,⟨⟨rf,rfl,rfl,rf,rfl,rfl,rf,tv⟩,?_,rfl,rfl⟩,⟨by omega,by omega⟩,by decide⟩
    repeat' first|exact trivial|rfl|exact rf|exact WC (bH R _)|refine abG ?_ ?_
  ·refine⟨Nat,fun j=>Rf P R s k i 3 j,fun j=>j<=5,fun j=>5-j,0,fun _=>rfl,?_,abW _,fun j hj=>abG (fun h=>?_) fun h=>?_⟩
   ·refine⟨⟨rf,rfl,rfl,rf,rfl,rfl,rf,rf,tv⟩,?_,rfl,rfl⟩
    repeat' first|exact trivial|rfl|exact rf|exact⟨rfl,rfl,rfl,rfl,_,rfl⟩|exact⟨rfl,rfl,_,rfl⟩|refine abG ?_ ?_
   ·have qT:j<5:=by have:=abY h;omega
    refine⟨fun _=>⟨by decide,by decide⟩,?_⟩
    refine .inr (cl [5,1,2,8,9,3,4] (QG _ _) (by kernel_rfl) rfl rfl ?_)
    refine .inl ⟨[I (cQ R 3 j)],rfl,⟨rf,tv⟩,(by simp;rfl),?_⟩
    refine .inr ⟨[I (cQ R 3 j)],cd.refl _,by rw[mi R _ qT];exact bI (n:=j+1) (by omega),by rw[mi R _ qT];omega,?_⟩
    refine⟨fun _=>⟨by decide,by decide⟩,by kernel_rfl,fun _=>⟨by omega,by omega⟩,j+1,jn rfl ?_ rfl rfl,qT,mlt qT⟩
    simp only[Rf]
    rw[<-pN R ((3:Nat):Int) qT];rfl
   ·obtain rfl:j=5:=by have:=abZ h;omega
    refine⟨fun _=>⟨by decide,by decide⟩,4,⟨⟨rf,rfl,rfl,rf,rfl,rfl,rf,tv⟩,?_,rfl,rfl⟩,⟨by omega,by omega⟩,by decide⟩
    repeat' first|exact trivial|rfl|exact rf|exact WC (bH R _)|refine abG ?_ ?_
  ·refine⟨Nat,fun j=>Rf P R s k i 4 j,fun j=>j<=5,fun j=>5-j,0,fun _=>rfl,?_,abW _,fun j hj=>abG (fun h=>?_) fun h=>?_⟩
   ·refine⟨⟨rf,rfl,rfl,rf,rfl,rfl,rf,rf,tv⟩,?_,rfl,rfl⟩
    repeat' first|exact trivial|rfl|exact rf|exact⟨rfl,rfl,rfl,rfl,_,rfl⟩|exact⟨rfl,rfl,_,rfl⟩|refine abG ?_ ?_
   ·have qT:j<5:=by have:=abY h;omega
    refine⟨fun _=>⟨by decide,by decide⟩,?_⟩
    refine .inr (cl [5,1,2,8,9,3,4] (QG _ _) (by kernel_rfl) rfl rfl ?_)
    refine .inl ⟨[I (cQ R 4 j)],rfl,⟨rf,tv⟩,(by simp;rfl),?_⟩
    refine .inr ⟨[I (cQ R 4 j)],cd.refl _,by rw[mi R _ qT];exact bI (n:=j+1) (by omega),by rw[mi R _ qT];omega,?_⟩
    refine⟨fun _=>⟨by decide,by decide⟩,by kernel_rfl,fun _=>⟨by omega,by omega⟩,j+1,jn rfl ?_ rfl rfl,qT,mlt qT⟩
    simp only[Rf]
    rw[<-pN R ((4:Nat):Int) qT];rfl
   ·obtain rfl:j=5:=by have:=abZ h;omega
    refine⟨fun _=>⟨by decide,by decide⟩,5,⟨⟨rf,rfl,rfl,rf,rfl,rfl,rf,tv⟩,?_,rfl,rfl⟩,⟨by omega,by omega⟩,by decide⟩
    repeat' first|exact trivial|rfl|exact rf|exact WC (bH R _)|refine abG ?_ ?_
  ·refine⟨Nat,fun j=>Rf P R s k i 5 j,fun j=>j<=5,fun j=>5-j,0,fun _=>rfl,?_,abW _,fun j hj=>abG (fun h=>?_) fun h=>?_⟩
   ·refine⟨⟨rf,rfl,rfl,rf,rfl,rfl,rf,rf,tv⟩,?_,rfl,rfl⟩
    repeat' first|exact trivial|rfl|exact rf|exact⟨rfl,rfl,rfl,rfl,_,rfl⟩|exact⟨rfl,rfl,_,rfl⟩|refine abG ?_ ?_
   ·have qT:j<5:=by have:=abY h;omega
    refine⟨fun _=>⟨by decide,by decide⟩,?_⟩
    refine .inr (cl [5,1,2,8,9,3,4] (QG _ _) (by kernel_rfl) rfl rfl ?_)
    refine .inl ⟨[I (cQ R 5 j)],rfl,⟨rf,tv⟩,(by simp;rfl),?_⟩
    refine .inr ⟨[I (cQ R 5 j)],cd.refl _,by rw[mi R _ qT];exact bI (n:=j+1) (by omega),by rw[mi R _ qT];omega,?_⟩
    refine⟨fun _=>⟨by decide,by decide⟩,by kernel_rfl,fun _=>⟨by omega,by omega⟩,j+1,jn rfl ?_ rfl rfl,qT,mlt qT⟩
    simp only[Rf]
    rw[<-pN R ((5:Nat):Int) qT];rfl
   ·obtain rfl:j=5:=by have:=abZ h;omega
    refine⟨fun _=>⟨by decide,by decide⟩,6,⟨⟨rf,rfl,rfl,rf,rfl,rfl,rf,tv⟩,?_,rfl,rfl⟩,⟨by omega,by omega⟩,by decide⟩
    repeat' first|exact trivial|rfl|exact rf|exact WC (bH R _)|refine abG ?_ ?_
 obtain rfl:a=6:=by have:=abZ h;omega
 have hT:∀j,cE R.st j<=1000000:=fun j=>by have:=hI.tb j;omega
 have h9:s.kind≠9:=fun e=>by
  rcases GI.mv with h|h
  ·exact h5 h.1
  ·rw[e]at h;cases h.1
 have ai:=fun j m=>Tc (i:=j) (m:=m) hG F7.2.2.1 (by omega) h5 h9 F7.1 hw hT
 refine⟨Nat×Bool×List Int×List Int×List Int×List Int×List Int,fun x=>⟨15,[(1,.dv (Ints k)),(5,.ptr 5 0),(6,.ptr 7 0),(14,.dv (I i)),(15,.ptr 13 0),(16,.sle 14 6),(19,.dv (B x.2.1)),(20,.dv (I x.1))],WD P R++[(13,.cells (fc (aP s).cells)),(14,.cells [.dv .az,.dv (Ints x.2.2.1),.dv (Ints x.2.2.2.1),.dv (Ints x.2.2.2.2.1),.dv (Ints x.2.2.2.2.2.1),.dv (Ints x.2.2.2.2.2.2)])]⟩,
  fun x=>x.1<=s.mv.length/\(x.2.1=true->(cI R s s.mv.length).1=10)/\(x.2.1=false->(cI R s x.1).1=0/\x.2.2=(bH (cI R s x.1).2 1,bH (cI R s x.1).2 2,bH (cI R s x.1).2 3,bH (cI R s x.1).2 4,bH (cI R s x.1).2 5)),fun x=>s.mv.length-x.1,(0,false,bH R 1,bH R 2,bH R 3,bH R 4,bH R 5),fun _=>rfl,jn rfl rfl rfl rfl,⟨abW _,fun h=>(by cases h),fun _=>⟨rfl,rfl⟩⟩,?_⟩
 rintro⟨j,sh,l1,l2,l3,l4,l5⟩ ⟨hj,iY,ZT⟩
 simp only at hj iY ZT
 repeat first|apply g1|apply g2|apply g3|apply g4|apply g5
 refine abG (fun h=>?_) fun h=>?_
 ·have hc:(j:Int)<((s.mv.map ak).length:Int)/\sh=false:=by
   by_cases hd:(j:Int)<((s.mv.map ak).length:Int)
   ·rw[ab4 hd]at h
    have h:(!sh)=true:=h
    exact⟨hd,by simpa using h⟩
   ·rw[ab5 hd]at h;cases h
  obtain⟨tS,rfl⟩:=hc
  rw[abH]at tS
  have qw:j<s.mv.length:=by omega
  obtain⟨h0,hl⟩:=ZT rfl
  simp only[Prod.mk.injEq]at hl
  obtain⟨rfl,rfl,rfl,rfl,rfl⟩:=hl
  have hx:=aaj (show j<s.mv.length by omega)
  generalize s.mv[j]=m at hx
  have wD:=abK hx
  have Gn:=(F7.1 m wD).base
  have Bk:=abY Gn
  have aa3:=hw m wD
  have hn5:=abY aa3
  have dw:∀{q:Prop},q->((0:Int)<=(j:Int)/\(s.mv.map ak)[(j:Int).toNat]?=some (ak m)):=fun _=>⟨by omega,by rw[abJ,Int.toNat_natCast,hx];rfl⟩
  refine⟨ak m,dw,?_⟩
  refine⟨ak m,dw,?_⟩
  refine .inl ⟨[.agg [I m.it,I m.n]],rfl,⟨rf,rf,tv⟩,(by simp;rfl),?_⟩
  have hof:aI Tryz.prog 18 [I 5,.sl 2 [.agg [I m.it,I m.n]]] [Ints (MP m.it m.n),I 0]:=QD m.it m.n ⟨Bk.1,Bk.2.1⟩ ⟨Bk.2.2.1,Bk.2.2.2.1⟩
  refine .inl ⟨_,fun _=>hof.ok,?_⟩
  refine⟨by kernel_rfl,abG (fun h=>by cases h) fun _=>?_⟩
  refine⟨ak m,dw,?_⟩
  obtain⟨GM,J6⟩:=ai j m hx h0
  have hg1:=(nY hG F7.2.2.1 F7.1 j).1
  have Bh:=(nY hG F7.2.2.1 F7.1 (j+1)).1
  have Uk:=Th hg1 m.fr ⟨Bk.1,Bk.2.1⟩ ⟨Bk.2.2.1,Bk.2.2.2.1⟩
  have WG:(cI R s (j+1)).1=0->0<m.to->aI Tryz.prog 20 [Ints (bH (cI R s j).2 m.to),Ints (MP m.it m.n)] [Ints (bH (cI R s (j+1)).2 m.to),I 0]:=fun h ht=>by
   rw[<-(zv Gn (J6 h)).2.2 ht]
   refine Ti hg1 m.to ⟨Bk.1,Bk.2.1⟩ ⟨Bk.2.2.1,Bk.2.2.2.1⟩ ?_
   have:=J6 h m.to m.it ht
   rw[if_pos rfl,if_pos rfl,if_neg (show¬m.to=m.fr by omega)]at this
   have:=(vd Bh m.to m.it).2
   omega
  have Xv:(cI R s (j+1)).1=0->0<m.fr->¬cQ (cI R s j).2 m.fr m.it<m.n->aI Tryz.prog 19 [Ints (bH (cI R s j).2 m.fr),Ints (MP m.it m.n)] [Ints (bH (cI R s (j+1)).2 m.fr),I 0]:=fun h hf hc=>by
   rw[<-(zv Gn (J6 h)).2.1 hf];exact Uk.2 hc
  have oW:=fun h=>(zv (R':=(cI R s (j+1)).2) Gn (J6 h)).1
  have gu:(cI R s (j+1)).1=10->(cI R s s.mv.length).1=10:=fun h=>by
   have:=lU (R:=R) (s:=s) (i:=j+1) (by rw[h];decide) (s.mv.length-(j+1))
   rw[show j+1+(s.mv.length-(j+1))=s.mv.length by omega]at this
   rw[this];exact h
  generalize (cI R s j).2=R1 at*
  clear ai
  obtain⟨fr,to,it,n,ps⟩:=m
  simp only at Bk hn5 GM J6 Uk WG Xv oW
  have b7:fr≠to:=Bk.2.2.2.2.1
  refine abG (fun hf=>?_) fun hf=>?_
  ·have hf:0<fr:=abY hf
   have IQ:fr<6:=by omega
   have hf5:fr=1\/fr=2\/fr=3\/fr=4\/fr=5:=by omega
   rcases hf5 with rfl|rfl|rfl|rfl|rfl
   ·refine⟨_,dw,?_⟩
    refine⟨fun _=>⟨Int.le_of_lt hf,IQ⟩,?_⟩
    by_cases hc:cQ R1 1 it<n
    ·refine .inl ⟨_,fun _=>(Uk.1 hc).ok,?_⟩
     refine⟨_,dw,?_⟩
     refine⟨fun _=>⟨Int.le_of_lt hf,IQ⟩,?_⟩
     refine⟨_,dw,?_⟩
     repeat first|apply g1|apply g2|apply g3|apply g4|apply g5
     refine abG (fun h=>(ZS _ h).elim) fun _=>⟨fun _=>⟨by omega,by omega⟩,(j+1,true,[],bH R1 2,bH R1 3,bH R1 4,bH R1 5),⟨⟨rf,rfl,rfl,rf,rfl,rfl,rf,rf,tv⟩,?_,rfl,rfl⟩,⟨qw,fun _=>gu ?_,fun h=>(by cases h)⟩,mlt qw⟩
     ·repeat' first|exact trivial|rfl|exact rf|exact DV.aK 1|refine abG ?_ ?_
     ·rw[GM,if_pos ⟨hf,hc⟩]
    ·have qC:(cI R s (j+1)).1=0:=by rw[GM,if_neg (fun h=>hc h.2)]
     refine .inl ⟨_,fun _=>(Xv qC hf hc).ok,?_⟩
     refine⟨_,dw,?_⟩
     refine⟨fun _=>⟨Int.le_of_lt hf,IQ⟩,?_⟩
     refine⟨_,dw,?_⟩
     repeat first|apply g1|apply g2|apply g3|apply g4|apply g5
     have uE:=oW qC
     refine abG (fun h=>?_) fun h=>?_
     ·have ht:0<to:=abY (Ms h)
      have hA:=(WG qC ht).ok
      have Gq:to<6:=by omega
      have QH:to=1\/to=2\/to=3\/to=4\/to=5:=by omega
      rcases QH with rfl|rfl|rfl|rfl|rfl
      all_goals first
       |exact absurd rfl b7
       |refine⟨_,dw,?_⟩
        refine⟨fun _=>⟨Int.le_of_lt ht,Gq⟩,?_⟩
        refine .inl ⟨_,fun _=>hA,?_⟩
        refine abG (fun h=>by cases h) fun _=>?_
        refine⟨_,dw,?_⟩
        refine⟨fun _=>⟨Int.le_of_lt ht,Gq⟩,?_⟩
        refine⟨fun _=>⟨by omega,by omega⟩,QF (cI R s (j+1)).2 j,⟨⟨rf,rfl,rfl,rf,rfl,rfl,rf,rf,tv⟩,?_,rfl,rfl⟩,⟨qw,fun h=>(by cases h),fun _=>⟨qC,rfl⟩⟩,mlt qw⟩
        repeat' first|exact trivial|rfl|exact QE (uE _ (by decide) (by decide) (by decide))|exact rf|refine abG ?_ ?_
     ·have ht:¬0<to:=abZ (Mt h)
      obtain rfl:to=0:=by omega
      refine⟨fun _=>⟨by omega,by omega⟩,QF (cI R s (j+1)).2 j,⟨⟨rf,rfl,rfl,rf,rfl,rfl,rf,rf,tv⟩,?_,rfl,rfl⟩,⟨qw,fun h=>(by cases h),fun _=>⟨qC,rfl⟩⟩,mlt qw⟩
      repeat' first|exact trivial|rfl|exact QE (uE _ (by decide) (by decide) (by decide))|exact rf|refine abG ?_ ?_
   ·refine⟨_,dw,?_⟩
    refine⟨fun _=>⟨Int.le_of_lt hf,IQ⟩,?_⟩
    by_cases hc:cQ R1 2 it<n
    ·refine .inl ⟨_,fun _=>(Uk.1 hc).ok,?_⟩
     refine⟨_,dw,?_⟩
     refine⟨fun _=>⟨Int.le_of_lt hf,IQ⟩,?_⟩
     refine⟨_,dw,?_⟩
     repeat first|apply g1|apply g2|apply g3|apply g4|apply g5
     refine abG (fun h=>(ZS _ h).elim) fun _=>⟨fun _=>⟨by omega,by omega⟩,(j+1,true,bH R1 1,[],bH R1 3,bH R1 4,bH R1 5),⟨⟨rf,rfl,rfl,rf,rfl,rfl,rf,rf,tv⟩,?_,rfl,rfl⟩,⟨qw,fun _=>gu ?_,fun h=>(by cases h)⟩,mlt qw⟩
     ·repeat' first|exact trivial|rfl|exact rf|exact DV.aK 1|refine abG ?_ ?_
     ·rw[GM,if_pos ⟨hf,hc⟩]
    ·have qC:(cI R s (j+1)).1=0:=by rw[GM,if_neg (fun h=>hc h.2)]
     refine .inl ⟨_,fun _=>(Xv qC hf hc).ok,?_⟩
     refine⟨_,dw,?_⟩
     refine⟨fun _=>⟨Int.le_of_lt hf,IQ⟩,?_⟩
     refine⟨_,dw,?_⟩
     repeat first|apply g1|apply g2|apply g3|apply g4|apply g5
     have uE:=oW qC
     refine abG (fun h=>?_) fun h=>?_
     ·have ht:0<to:=abY (Ms h)
      have hA:=(WG qC ht).ok
      have Gq:to<6:=by omega
      have QH:to=1\/to=2\/to=3\/to=4\/to=5:=by omega
      rcases QH with rfl|rfl|rfl|rfl|rfl
      all_goals first
       |exact absurd rfl b7
       |refine⟨_,dw,?_⟩
        refine⟨fun _=>⟨Int.le_of_lt ht,Gq⟩,?_⟩
        refine .inl ⟨_,fun _=>hA,?_⟩
        refine abG (fun h=>by cases h) fun _=>?_
        refine⟨_,dw,?_⟩
        refine⟨fun _=>⟨Int.le_of_lt ht,Gq⟩,?_⟩
        refine⟨fun _=>⟨by omega,by omega⟩,QF (cI R s (j+1)).2 j,⟨⟨rf,rfl,rfl,rf,rfl,rfl,rf,rf,tv⟩,?_,rfl,rfl⟩,⟨qw,fun h=>(by cases h),fun _=>⟨qC,rfl⟩⟩,mlt qw⟩
        repeat' first|exact trivial|rfl|exact QE (uE _ (by decide) (by decide) (by decide))|exact rf|refine abG ?_ ?_
     ·have ht:¬0<to:=abZ (Mt h)
      obtain rfl:to=0:=by omega
      refine⟨fun _=>⟨by omega,by omega⟩,QF (cI R s (j+1)).2 j,⟨⟨rf,rfl,rfl,rf,rfl,rfl,rf,rf,tv⟩,?_,rfl,rfl⟩,⟨qw,fun h=>(by cases h),fun _=>⟨qC,rfl⟩⟩,mlt qw⟩
      repeat' first|exact trivial|rfl|exact QE (uE _ (by decide) (by decide) (by decide))|exact rf|refine abG ?_ ?_
   ·refine⟨_,dw,?_⟩
    refine⟨fun _=>⟨Int.le_of_lt hf,IQ⟩,?_⟩
    by_cases hc:cQ R1 3 it<n
    ·refine .inl ⟨_,fun _=>(Uk.1 hc).ok,?_⟩
     refine⟨_,dw,?_⟩
     refine⟨fun _=>⟨Int.le_of_lt hf,IQ⟩,?_⟩
     refine⟨_,dw,?_⟩
     repeat first|apply g1|apply g2|apply g3|apply g4|apply g5
     refine abG (fun h=>(ZS _ h).elim) fun _=>⟨fun _=>⟨by omega,by omega⟩,(j+1,true,bH R1 1,bH R1 2,[],bH R1 4,bH R1 5),⟨⟨rf,rfl,rfl,rf,rfl,rfl,rf,rf,tv⟩,?_,rfl,rfl⟩,⟨qw,fun _=>gu ?_,fun h=>(by cases h)⟩,mlt qw⟩
     ·repeat' first|exact trivial|rfl|exact rf|exact DV.aK 1|refine abG ?_ ?_
     ·rw[GM,if_pos ⟨hf,hc⟩]
    ·have qC:(cI R s (j+1)).1=0:=by rw[GM,if_neg (fun h=>hc h.2)]
     refine .inl ⟨_,fun _=>(Xv qC hf hc).ok,?_⟩
     refine⟨_,dw,?_⟩
     refine⟨fun _=>⟨Int.le_of_lt hf,IQ⟩,?_⟩
     refine⟨_,dw,?_⟩
     repeat first|apply g1|apply g2|apply g3|apply g4|apply g5
     have uE:=oW qC
     refine abG (fun h=>?_) fun h=>?_
     ·have ht:0<to:=abY (Ms h)
      have hA:=(WG qC ht).ok
      have Gq:to<6:=by omega
      have QH:to=1\/to=2\/to=3\/to=4\/to=5:=by omega
      rcases QH with rfl|rfl|rfl|rfl|rfl
      all_goals first
       |exact absurd rfl b7
       |refine⟨_,dw,?_⟩
        refine⟨fun _=>⟨Int.le_of_lt ht,Gq⟩,?_⟩
        refine .inl ⟨_,fun _=>hA,?_⟩
        refine abG (fun h=>by cases h) fun _=>?_
        refine⟨_,dw,?_⟩
        refine⟨fun _=>⟨Int.le_of_lt ht,Gq⟩,?_⟩
        refine⟨fun _=>⟨by omega,by omega⟩,QF (cI R s (j+1)).2 j,⟨⟨rf,rfl,rfl,rf,rfl,rfl,rf,rf,tv⟩,?_,rfl,rfl⟩,⟨qw,fun h=>(by cases h),fun _=>⟨qC,rfl⟩⟩,mlt qw⟩
        repeat' first|exact trivial|rfl|exact QE (uE _ (by decide) (by decide) (by decide))|exact rf|refine abG ?_ ?_
     ·have ht:¬0<to:=abZ (Mt h)
      obtain rfl:to=0:=by omega
      refine⟨fun _=>⟨by omega,by omega⟩,QF (cI R s (j+1)).2 j,⟨⟨rf,rfl,rfl,rf,rfl,rfl,rf,rf,tv⟩,?_,rfl,rfl⟩,⟨qw,fun h=>(by cases h),fun _=>⟨qC,rfl⟩⟩,mlt qw⟩
      repeat' first|exact trivial|rfl|exact QE (uE _ (by decide) (by decide) (by decide))|exact rf|refine abG ?_ ?_
   ·refine⟨_,dw,?_⟩
    refine⟨fun _=>⟨Int.le_of_lt hf,IQ⟩,?_⟩
    by_cases hc:cQ R1 4 it<n
    ·refine .inl ⟨_,fun _=>(Uk.1 hc).ok,?_⟩
     refine⟨_,dw,?_⟩
     refine⟨fun _=>⟨Int.le_of_lt hf,IQ⟩,?_⟩
     refine⟨_,dw,?_⟩
     repeat first|apply g1|apply g2|apply g3|apply g4|apply g5
     refine abG (fun h=>(ZS _ h).elim) fun _=>⟨fun _=>⟨by omega,by omega⟩,(j+1,true,bH R1 1,bH R1 2,bH R1 3,[],bH R1 5),⟨⟨rf,rfl,rfl,rf,rfl,rfl,rf,rf,tv⟩,?_,rfl,rfl⟩,⟨qw,fun _=>gu ?_,fun h=>(by cases h)⟩,mlt qw⟩
     ·repeat' first|exact trivial|rfl|exact rf|exact DV.aK 1|refine abG ?_ ?_
     ·rw[GM,if_pos ⟨hf,hc⟩]
    ·have qC:(cI R s (j+1)).1=0:=by rw[GM,if_neg (fun h=>hc h.2)]
     refine .inl ⟨_,fun _=>(Xv qC hf hc).ok,?_⟩
     refine⟨_,dw,?_⟩
     refine⟨fun _=>⟨Int.le_of_lt hf,IQ⟩,?_⟩
     refine⟨_,dw,?_⟩
     repeat first|apply g1|apply g2|apply g3|apply g4|apply g5
     have uE:=oW qC
     refine abG (fun h=>?_) fun h=>?_
     ·have ht:0<to:=abY (Ms h)
      have hA:=(WG qC ht).ok
      have Gq:to<6:=by omega
      have QH:to=1\/to=2\/to=3\/to=4\/to=5:=by omega
      rcases QH with rfl|rfl|rfl|rfl|rfl
      all_goals first
       |exact absurd rfl b7
       |refine⟨_,dw,?_⟩
        refine⟨fun _=>⟨Int.le_of_lt ht,Gq⟩,?_⟩
        refine .inl ⟨_,fun _=>hA,?_⟩
        refine abG (fun h=>by cases h) fun _=>?_
        refine⟨_,dw,?_⟩
        refine⟨fun _=>⟨Int.le_of_lt ht,Gq⟩,?_⟩
        refine⟨fun _=>⟨by omega,by omega⟩,QF (cI R s (j+1)).2 j,⟨⟨rf,rfl,rfl,rf,rfl,rfl,rf,rf,tv⟩,?_,rfl,rfl⟩,⟨qw,fun h=>(by cases h),fun _=>⟨qC,rfl⟩⟩,mlt qw⟩
        repeat' first|exact trivial|rfl|exact QE (uE _ (by decide) (by decide) (by decide))|exact rf|refine abG ?_ ?_
     ·have ht:¬0<to:=abZ (Mt h)
      obtain rfl:to=0:=by omega
      refine⟨fun _=>⟨by omega,by omega⟩,QF (cI R s (j+1)).2 j,⟨⟨rf,rfl,rfl,rf,rfl,rfl,rf,rf,tv⟩,?_,rfl,rfl⟩,⟨qw,fun h=>(by cases h),fun _=>⟨qC,rfl⟩⟩,mlt qw⟩
      repeat' first|exact trivial|rfl|exact QE (uE _ (by decide) (by decide) (by decide))|exact rf|refine abG ?_ ?_
   ·refine⟨_,dw,?_⟩
    refine⟨fun _=>⟨Int.le_of_lt hf,IQ⟩,?_⟩
    by_cases hc:cQ R1 5 it<n
    ·refine .inl ⟨_,fun _=>(Uk.1 hc).ok,?_⟩
     refine⟨_,dw,?_⟩
     refine⟨fun _=>⟨Int.le_of_lt hf,IQ⟩,?_⟩
     refine⟨_,dw,?_⟩
     repeat first|apply g1|apply g2|apply g3|apply g4|apply g5
     refine abG (fun h=>(ZS _ h).elim) fun _=>⟨fun _=>⟨by omega,by omega⟩,(j+1,true,bH R1 1,bH R1 2,bH R1 3,bH R1 4,[]),⟨⟨rf,rfl,rfl,rf,rfl,rfl,rf,rf,tv⟩,?_,rfl,rfl⟩,⟨qw,fun _=>gu ?_,fun h=>(by cases h)⟩,mlt qw⟩
     ·repeat' first|exact trivial|rfl|exact rf|exact DV.aK 1|refine abG ?_ ?_
     ·rw[GM,if_pos ⟨hf,hc⟩]
    ·have qC:(cI R s (j+1)).1=0:=by rw[GM,if_neg (fun h=>hc h.2)]
     refine .inl ⟨_,fun _=>(Xv qC hf hc).ok,?_⟩
     refine⟨_,dw,?_⟩
     refine⟨fun _=>⟨Int.le_of_lt hf,IQ⟩,?_⟩
     refine⟨_,dw,?_⟩
     repeat first|apply g1|apply g2|apply g3|apply g4|apply g5
     have uE:=oW qC
     refine abG (fun h=>?_) fun h=>?_
     ·have ht:0<to:=abY (Ms h)
      have hA:=(WG qC ht).ok
      have Gq:to<6:=by omega
      have QH:to=1\/to=2\/to=3\/to=4\/to=5:=by omega
      rcases QH with rfl|rfl|rfl|rfl|rfl
      all_goals first
       |exact absurd rfl b7
       |refine⟨_,dw,?_⟩
        refine⟨fun _=>⟨Int.le_of_lt ht,Gq⟩,?_⟩
        refine .inl ⟨_,fun _=>hA,?_⟩
        refine abG (fun h=>by cases h) fun _=>?_
        refine⟨_,dw,?_⟩
        refine⟨fun _=>⟨Int.le_of_lt ht,Gq⟩,?_⟩
        refine⟨fun _=>⟨by omega,by omega⟩,QF (cI R s (j+1)).2 j,⟨⟨rf,rfl,rfl,rf,rfl,rfl,rf,rf,tv⟩,?_,rfl,rfl⟩,⟨qw,fun h=>(by cases h),fun _=>⟨qC,rfl⟩⟩,mlt qw⟩
        repeat' first|exact trivial|rfl|exact QE (uE _ (by decide) (by decide) (by decide))|exact rf|refine abG ?_ ?_
     ·have ht:¬0<to:=abZ (Mt h)
      obtain rfl:to=0:=by omega
      refine⟨fun _=>⟨by omega,by omega⟩,QF (cI R s (j+1)).2 j,⟨⟨rf,rfl,rfl,rf,rfl,rfl,rf,rf,tv⟩,?_,rfl,rfl⟩,⟨qw,fun h=>(by cases h),fun _=>⟨qC,rfl⟩⟩,mlt qw⟩
      repeat' first|exact trivial|rfl|exact QE (uE _ (by decide) (by decide) (by decide))|exact rf|refine abG ?_ ?_
  ·have hf:¬0<fr:=abZ hf
   obtain rfl:fr=0:=by omega
   refine⟨_,dw,?_⟩
   repeat first|apply g1|apply g2|apply g3|apply g4|apply g5
   have qC:(cI R s (j+1)).1=0:=by rw[GM,if_neg (fun h=>hf h.1)]
   have uE:=oW qC
   refine abG (fun h=>?_) fun h=>?_
   ·have ht:0<to:=abY (Ms h)
    have hA:=(WG qC ht).ok
    have Gq:to<6:=by omega
    have QH:to=1\/to=2\/to=3\/to=4\/to=5:=by omega
    rcases QH with rfl|rfl|rfl|rfl|rfl
    all_goals first
     |exact absurd rfl b7
     |refine⟨_,dw,?_⟩
      refine⟨fun _=>⟨Int.le_of_lt ht,Gq⟩,?_⟩
      refine .inl ⟨_,fun _=>hA,?_⟩
      refine abG (fun h=>by cases h) fun _=>?_
      refine⟨_,dw,?_⟩
      refine⟨fun _=>⟨Int.le_of_lt ht,Gq⟩,?_⟩
      refine⟨fun _=>⟨by omega,by omega⟩,QF (cI R s (j+1)).2 j,⟨⟨rf,rfl,rfl,rf,rfl,rfl,rf,rf,tv⟩,?_,rfl,rfl⟩,⟨qw,fun h=>(by cases h),fun _=>⟨qC,rfl⟩⟩,mlt qw⟩
      repeat' first|exact trivial|rfl|exact QE (uE _ (by decide) (by decide) (by decide))|exact rf|refine abG ?_ ?_
   ·have ht:¬0<to:=abZ (Mt h)
    omega
 have fT:tE R s=(cI R s s.mv.length).1:=by unfold tE;rw[F7.2.1];rfl
 have oi:(sh=true/\tE R s=10)\/(sh=false/\tE R s=0/\(l1,l2,l3,l4,l5)=(bH (GN R s) 1,bH (GN R s) 2,bH (GN R s) 3,bH (GN R s) 4,bH (GN R s) 5)):=by
  cases sa:sh with
  |true=>exact .inl ⟨rfl,fT.trans (iY sa)⟩
  |false=>
   have tS:j=s.mv.length:=by
    by_cases hd:(j:Int)<((s.mv.map ak).length:Int)
    ·rw[ab4 hd,sa]at h;cases h
    ·rw[abH]at hd;omega
   obtain⟨h0,hl⟩:=ZT sa
   rw[tS]at h0 hl
   exact .inr ⟨rfl,fT.trans h0,hl⟩
 rcases oi with⟨rfl,ho⟩|⟨rfl,ho,hl⟩
 ·rcases hss with⟨_,h2,h3⟩|⟨h0,_⟩
  rotate_left
  ·rw[ho]at h0;cases h0
  rw[ho]at h2 h3
  refine .inr (cl [5,1,2,8,9,3,4] h2 (by kernel_rfl) rfl rfl ?_)
  rcases h3 with h3|h3
  all_goals
   refine .inr (cl [7,10,11,12] h3 (by kernel_rfl) rfl rfl ?_)
   refine abG (fun _=>abG (fun h=>by cases h) fun _=>?_) fun h=>(by cases h)
   exact⟨fun _=>⟨by omega,by omega⟩,(i+1,P,R),jn rfl rfl rfl rfl,⟨au,hI.mono⟩,mlt au⟩
 ·rcases hss with⟨h0,_⟩|⟨_,P',WE,h2,h3⟩
  ·exact absurd ho h0
  simp only[Prod.mk.injEq]at hl
  obtain⟨rfl,rfl,rfl,rfl,rfl⟩:=hl
  have hL':=hnb P' WE
  have hG2:=WE.nX
  generalize GN R s=R' at*
  generalize R.sh*4294967296+(R.sp.length:Int)=z at*
  refine .inr (cl [5,1,2,8,9,3,4] h2 (by kernel_rfl) rfl rfl ?_)
  refine .inr (cl [7,10,11,12] h3 (by kernel_rfl) rfl rfl ?_)
  have ZU:∀a j,ar Tryz.prog 17 [.ptr 0 0,.dv (I a),.dv (I j)] 7 (kJ P') 0 [.dv (I (cQ R' a j))] (kJ P'):=fun a j=>by
   have hS:=hG2.th (a,j)
   have oH:=hG2.fl
   have:=BI P' a j (by rw[WE.th];omega) (by rw[WE.th];exact fun x hx=>mR (hS.1 x hx))
   rw[WE.th,<-lx (gz hS.1 (by omega))]at this
   exact this
  refine abG (fun h=>by cases h) fun _=>abG (fun h=>by cases h) fun _=>?_
  refine⟨Nat,fun a=>⟨15,[(1,.dv (Ints k)),(5,.ptr 5 0),(6,.ptr 7 0),(14,.dv (I i)),(16,.sle 14 6),(29,.dv (I a))],WD P' R'++[(14,.cells (bgC R' 6))]⟩,fun a=>1<=a/\a<=6,fun a=>6-a,1,fun _=>rfl,jn rfl rfl rfl rfl,⟨by omega,by omega⟩,?_⟩
  rintro a ⟨ha1,ha6⟩
  refine abG (fun h=>?_) fun h=>?_
  rotate_left
  ·exact⟨fun _=>⟨by omega,by omega⟩,(i+1,P',R'),jn rfl rfl rfl rfl,⟨au,hL'⟩,mlt au⟩
  have TJ:a<6:=by have:=abY h;omega
  refine⟨Nat,fun j=>⟨15,[(1,.dv (Ints k)),(5,.ptr 5 0),(6,.ptr 7 0),(14,.dv (I i)),(16,.sle 14 6),(29,.dv (I a)),(30,.dv (I j))],WD P' R'++[(14,.cells (bgC R' 6))]⟩,fun j=>j<=5,fun j=>5-j,0,fun _=>rfl,jn rfl rfl rfl rfl,abW _,?_⟩
  intro j hj
  refine abG (fun h=>?_) fun h=>?_
  rotate_left
  ·exact⟨fun _=>⟨by omega,by omega⟩,a+1,jn rfl rfl rfl rfl,⟨by omega,by omega⟩,by simp only;omega⟩
  have qT:j<5:=by have:=abY h;omega
  refine .inr (cl [5,1,2,8,9,3,4] (ZU _ _) (by kernel_rfl) rfl rfl ?_)
  have dw:∀a:Int,((bH R' a).map I)[(j:Int).toNat]?=some (I (cQ R' a j)):=fun a=>by rw[abJ,show(bH R' a)[(j:Int).toNat]?=some (cQ R' a j)from Ku _ (by omega)];rfl
  have ha:a=1\/a=2\/a=3\/a=4\/a=5:=by omega
  rcases ha with rfl|rfl|rfl|rfl|rfl
  all_goals
   refine⟨fun _=>⟨by decide,by decide⟩,?_⟩
   refine⟨I (cQ R' _ j),fun _=>⟨by omega,dw _⟩,?_⟩
   refine⟨by kernel_rfl,abG (fun h=>absurd rfl (bne_iff_ne.1 h)) fun _=>?_⟩
   exact⟨fun _=>⟨by omega,by omega⟩,j+1,jn rfl rfl rfl rfl,qT,mlt qT⟩
end
section
open Go.TM
def ZV(sh:Int):ae:=[(1,.tree 0 0 (.omap eX [])),(2,.tree 0 0 (.omap cH [])),(3,.tree 0 0 (.omap cH [])),(4,.tree 0 0 (.omap cH [])),(5,.cells (.dv (I sh)::fc jc++[.own 1 0 0 [],.own 2 0 0 [],.own 6 0 0 [],.own 7 0 0 [],.own 3 0 0 [],.own 4 0 0 []])),(6,.tree 0 0 (.aB 7 [])),(7,.tree 0 0 (.aB 11 []))]
def sp1:dW:=⟨0,0,0,0,-1,0,[⟨0,1,1,5,[]⟩]⟩
def ZW:dW:=⟨0,2,0,0,-1,0,[⟨1,2,1,3,[]⟩]⟩
def R0:RL:=⟨0,[],[],[]⟩
def R1:RL:=GN R0 sp1
def R2:RL:=GN R1 ZW
theorem QI(R:RL)(k fr to n:Int)(h5:j9 k=false)(hb:eG ⟨fr,to,1,n,[]⟩=true):pw R ⟨0,k,0,0,-1,0,[⟨fr,to,1,n,[]⟩]⟩:=
 ⟨by unfold vU;simp,by simp,fun m hm=>by rw[abN]at hm;subst hm;simp,fun _ m hm=>by
  rw[abN]at hm;subst hm
  have hn:¬(k=5\/k=7\/k=9):=abZ h5
  exact⟨hb,.inr (.inr ⟨fun e=>hn (.inl e),fun e=>hn (.inr (.inr e)),rfl⟩)⟩⟩
variable [bG]
theorem IS(sh:Int)(h:0<=sh/\sh<=11):ar Tryz.prog 8 [.dv (I sh),cY Fl] 0 [] 8 [.ptr 5 0,.dv (I 0)] (ZV sh):=by
 refine cO Tryz.func8 rfl (by kernel_rfl) ?_
 repeat first|apply g1|apply g2|apply g3|apply g4|apply g5
 refine abG (fun hc=>?_) fun _=>?_
 ·simp[bw]at hc;omega
 refine .inl ⟨_,fun _=>yN.ok,?_⟩
 refine abG (fun h=>by cases h) fun _=>?_
 refine .inl ⟨_,fun _=>Bn.ok,?_⟩
 refine⟨eX,cH,cH,cH,?_⟩
 refine⟨_,_,⟨rfl,rfl⟩,by kernel_rfl,⟨rfl,rf,tv⟩,?_⟩
 repeat' first|exact trivial|rfl|exact rf|exact za|exact⟨rfl,rfl,rfl,rfl,_,rfl⟩|exact⟨rfl,rfl,_,rfl⟩|refine abG ?_ ?_
theorem IT:aI Tryz.prog 12 [] [B true]:=by
 have o1:tE R0 sp1=0:=by kernel_rfl
 have o2:tE R1 ZW=0:=by kernel_rfl
 have o3:tE R2 ZW=10:=by kernel_rfl
 have BA:Inv ⟨0,[],[],[],[],[],[]⟩ R0:=ZM ⟨by omega,by omega⟩
 rcases mV (s:=sp1) tH BA (by simp[R0]) (QI R0 0 0 1 5 rfl rfl)with⟨h,_⟩|⟨_,P1,MJ,h1,_⟩
 ·exact absurd o1 h
 have MJ:Inv P1 R1:=MJ
 rcases mV (s:=ZW) tH MJ (by simp[R0,R1,GN]) (QI _ 2 1 2 3 rfl rfl)with⟨h,_⟩|⟨_,P2,uY,h2,_⟩
 ·exact absurd o2 h
 have uY:Inv P2 R2:=uY
 rcases mV (s:=ZW) tH uY (by simp[R0,R1,R2,GN]) (QI _ 2 1 2 3 rfl rfl)with⟨_,h3,_⟩|⟨h,_⟩
 rotate_left
 ·exact absurd (o3.symm.trans h) (by decide)
 rw[o3]at h3
 rw[show R1.sh*4294967296+(R1.sp.length:Int)=1 by kernel_rfl]at h2
 have q1:=wb P2 1 1 (by rw[uY.th];exact Nat.le_trans (uY.nX.th _).2 (by have:=uY.nX.fl;omega))
 have q2:=wb P2 2 1 (by rw[uY.th];exact Nat.le_trans (uY.nX.th _).2 (by have:=uY.nX.fl;omega))
 have q3:=FO P2 1
 rw[uY.th,show b5 R2.st (1,1)=[⟨0,3,2⟩]by kernel_rfl]at q1
 rw[uY.th,show b5 R2.st (2,1)=[⟨1,0,3⟩]by kernel_rfl]at q2
 rw[uY.cb,show cE R2.st 1=5 by kernel_rfl]at q3
 clear BA MJ uY o1 o2 o3
 refine pO Tryz.func12 rfl (by kernel_rfl) rfl ?_
 refine .inl ⟨_,fun _=>yM.ok,?_⟩
 refine .inr (cl [] (IS 0 ⟨by omega,by omega⟩) (by kernel_rfl) rfl rfl ?_)
 repeat first|apply g1|apply g2|apply g3|apply g4|apply g5
 refine abG (fun h=>by cases h) fun _=>?_
 refine .inl ⟨[ak ⟨0,1,1,5,[]⟩],rfl,⟨rf,rf,rf,rf,DV.aK 3,tv⟩,(by simp;rfl),?_⟩
 refine .inr (cl [5,1,2,6,7,3,4] h1 (by kernel_rfl) rfl rfl ?_)
 refine .inl ⟨[ak ⟨1,2,1,3,[]⟩],rfl,⟨rf,rf,rf,rf,DV.aK 3,tv⟩,(by simp;rfl),?_⟩
 refine .inr (cl [5,1,2,6,7,3,4] h2 (by kernel_rfl) rfl rfl ?_)
 refine .inl ⟨[ak ⟨1,2,1,3,[]⟩],rfl,⟨rf,rf,rf,rf,DV.aK 3,tv⟩,(by simp;rfl),?_⟩
 refine .inr (cl [5,1,2,6,7,3,4] h3 (by kernel_rfl) rfl rfl ?_)
 repeat first|apply g1|apply g2|apply g3|apply g4|apply g5
 refine .inr (cl [5,1,2,6,7,3,4] q1 (by kernel_rfl) rfl rfl ?_)
 refine⟨by kernel_rfl,?_⟩
 repeat first|apply g1|apply g2|apply g3|apply g4|apply g5
 conv=>whnf
 refine Or.inl ?_
 refine abG id ?_
 refine Or.inl ?_
 refine⟨[aC ⟨0,3,2⟩],rfl,⟨rf,rf,rf,tv⟩,(by simp;rfl),?_⟩
 refine⟨by kernel_rfl,?_⟩
 repeat first|apply g1|apply g2|apply g3|apply g4|apply g5
 conv=>whnf
 refine Or.inl ?_
 refine⟨_,fun _=>(BE [⟨0,3,2⟩] (by simp)).ok,?_⟩
 repeat first|apply g1|apply g2|apply g3|apply g4|apply g5
 conv=>whnf
 refine .inr (cl [5,1,2,6,7,3,4] q2 (by kernel_rfl) rfl rfl ?_)
 refine⟨by kernel_rfl,?_⟩
 repeat first|apply g1|apply g2|apply g3|apply g4|apply g5
 conv=>whnf
 refine Or.inl ?_
 refine abG id ?_
 refine Or.inl ?_
 refine⟨[aC ⟨1,0,3⟩],rfl,⟨rf,rf,rf,tv⟩,(by simp;rfl),?_⟩
 refine⟨by kernel_rfl,?_⟩
 repeat first|apply g1|apply g2|apply g3|apply g4|apply g5
 conv=>whnf
 refine Or.inl ?_
 refine⟨_,fun _=>(BE [⟨1,0,3⟩] (by simp)).ok,?_⟩
 repeat first|apply g1|apply g2|apply g3|apply g4|apply g5
 conv=>whnf
 refine .inr (cl [5,1,2,6,7,3,4] q3 (by kernel_rfl) rfl rfl ?_)
 refine⟨by kernel_rfl,?_⟩
 repeat first|apply g1|apply g2|apply g3|apply g4|apply g5
 exact⟨rf,tv⟩
end
section
open Go.TM Go.ChangeShapes Go.WideShapes Go.ChangeAt Go.RowKit
theorem own:ownKnob Tryz.prog.godebug=none:=by kernel_rfl
theorem laidOut:laidOutB Tryz.prog=true:=by kernel_rfl
theorem WH{n:Int}(h:(Lit.int .i64 n).wf=true):vU n:=by simpa[vU,Lit.wf,IntKind.min,IntKind.max,IntKind.signed,IntKind.bits]using h
theorem Kv{H:Type}{enc:TypeId×Value->H}{W:World}{v:Value}{d:DataW H}{p:List MemPlace}(hv:∃a len cap,v=.slice a len cap)(h:DataW.Trod enc Tryz.prog W 0 (fun _=>true) true 40 v d p):
 ∃zs:List Int,bu (fun b=>W.heap[b]?) (Ints zs) v/\∀x,x∈zs->vU x:=by
 obtain⟨fuel,h⟩:=h
 obtain⟨a0,l0,c0,rfl⟩:=hv
 rcases open_ints Tryz.underlying40 Tryz.underlying3 (by kernel_rfl) h with⟨h1,-⟩|⟨a,len,cap,zs,h1,h2,h3,h4,h5,h6,h7,h8⟩
 ·simp[Value.cells]at h1
  obtain⟨rfl,rfl,rfl⟩:=h1
  exact⟨[],.slnil 1,fun x hx=>by simp at hx⟩
 ·simp[Value.cells]at h1
  obtain⟨rfl,rfl,rfl⟩:=h1
  simp only[if_true]at h5
  have hlen:((zs.take l0).map I).length=l0:=by simp;omega
  refine⟨zs.take l0,?_,fun x hx=>WH (h8 x (List.mem_of_mem_take hx))⟩
  ·have hd:=bu.sl (M:=fun b=>W.heap[b]?) 1 ((zs.take l0).map I) a c0 (fun i _=>.int .i64 (zs.getD i 0)) (by rw[hlen];exact h3) (fun x hx=>by
    obtain⟨n,-,rfl⟩:=ab9.1 hx
    exact⟨rfl,fun d hd=>by simp only[DV.cells,abN]at hd;subst hd;rfl⟩) (fun i j hi hj=>by
    have hj0:j=0:=by omega
    subst hj0
    rw[hlen]at hi
    have:=h7 i (by omega)
    rw[Nat.mul_one,Nat.add_zero]
    exact this) (fun i x j d hx hd=>by
    have hi:i<l0:=by
     have:=(abI.1 hx).1
     rw[hlen]at this;exact this
    rw[abJ,List.getElem?_take_of_lt hi,aaj (by omega)]at hx
    simp only[Option.map_some,Option.some.injEq]at hx
    subst hx
    match j,hd with
    |0,hd=>
     simp only[DV.cells,List.getElem?_cons_zero,Option.some.injEq]at hd
     subst hd
     have e:zs.getD i 0=zs[i]'(by omega):=by simp[List.getD,aaj (show i<zs.length by omega)]
     rw[e]
     exact .int .i64 _
    |j+1,hd=>simp[DV.cells]at hd)
   rw[hlen]at hd
   exact hd
theorem QJ{W:World}(h:laidMetH Tryz.prog [("worldmint/lexer.kinds",Rows.laid_worldmint_lexer_kinds)] W):∃(ty:TypeId) (fr:Nat×Nat),W.heap[0]?=some (.cells Lu ty fr):=by
 have ht:Lib.TabIs Tryz.prog W "worldmint/lexer.kinds" .u8 (Bm.map fun n=>((n:Nat):Int)):=
  Lib.tabIs_of_head (rest:=[]) (g:=0) (t:=265) (e:=5) (n:=128) (by kernel_rfl) (by kernel_rfl) Tryz.underlying265 Tryz.underlying5 (by kernel_rfl) (by kernel_rfl) h
 have hg:Tryz.prog.globalNamed "worldmint/lexer.kinds"=some 0:=by kernel_rfl
 unfold Lib.TabIs World.var? at ht
 rw[hg]at ht
 simp only[Option.bind_some]at ht
 split at ht
 ·rename_i cs ty fr hh
  injection ht with ht
  refine⟨ty,fr,?_⟩
  rw[hh,ht]
  simp only[Lu,List.map_map]
  rfl
 ·cases ht
def QK(w:World):World:={ w with heap:=w.heap.modify 0 fun
 |.cells _ t frozen=>.cells Lu t frozen
 |o=>o }
end
end Go.Proofs.YtknnpcfhekkjjaaGreatDoor
