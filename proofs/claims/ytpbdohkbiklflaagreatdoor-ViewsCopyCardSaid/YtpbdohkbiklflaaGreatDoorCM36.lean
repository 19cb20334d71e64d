import Derived.Test.YtpbdohkbiklflaaGreatDoorCM33
import Derived.Test.YtpbdohkbiklflaaGreatDoorCM34
import Derived.Test.YtpbdohkbiklflaaGreatDoorCM35
import Derived.Test.YtpbdohkbiklflaaGreatDoorCM21
import Derived.Test.YtpbdohkbiklflaaGreatDoorCards
import Derived.Test.YtpbdohkbiklflaaGreatDoorTie
import Derived.WalkKit
import Derived.ProofKit
import Derived.OpenShut
import Derived.JoinedCond
import Derived.Carry
import Derived.ChangeSlices
import Derived.Deep.DeepHandedRow
import Derived.Lib.LaidTab
set_option linter.unusedVariables false
set_option linter.unusedSimpArgs false
set_option linter.unusedSectionVars false
namespace Go.Proofs.YtpbdohkbiklflaaGreatDoor
open Go.TM
variable [cG]
set_option maxRecDepth 100000
def PO (v:RV):List DV:=[I 4,I v.coin,I v.ab,I v.aE,ju v.steps,I v.work]
def Nl (v:RV):aj:=[(0,.cells (iU (PO v)))]
theorem vn (v:RV):∀d,d∈PO v→d.ah=false:=by
 intro d hd
 simp only [PO,List.mem_cons,List.mem_nil_iff,or_false] at hd
 rcases hd with rfl | rfl | rfl | rfl | rfl | rfl <;> rfl
theorem GN (v:RV) (hl:v.steps.length≤1000):aO Tryz.prog 16 [.ptr 0 0] 1 (Nl v) 0 [.dv (I (bs v.steps))] (Nl v):=by
 refine aJ aD mixed (af _) (ai _) Tryz.func16 rfl rfl (by kernel_rfl) ?_
 refine ⟨fun h=>?_,fun h=>?_⟩
 ·have h0:v.steps=[]:=by
   have h:decide (((v.steps.map fT).length:Int)=0)=true:=h
   rw [List.length_map] at h
   have:=of_decide_eq_true h
   exact List.length_eq_zero_iff.1 (by omega)
  exact ⟨_,_,⟨rfl,rfl⟩,by kernel_rfl,⟨au (by rw [h0]; rfl),tv⟩,⟨rf,rf,rf,rf,rf,rf,tv⟩,tv⟩
 ·have h0:v.steps.length ≠ 0:=by
   have h:decide (((v.steps.map fT).length:Int)=0)=false:=h
   rw [List.length_map] at h
   have:=of_decide_eq_false h
   omega
  have hx:v.steps[v.steps.length - 1]?=some (v.steps.getD (v.steps.length - 1) P8):=by rw [List.getD_eq_getElem?_getD,List.getElem?_eq_getElem (by omega)]; rfl
  refine ⟨fun _=>⟨by rw [List.length_map]; omega,by rw [List.length_map]; omega⟩,?_⟩
  refine ⟨fT (v.steps.getD (v.steps.length - 1) P8),fun _=>⟨by rw [List.length_map]; omega,?_⟩,?_⟩
  ·rw [List.length_map,show ((v.steps.length:Int) - 1).toNat=v.steps.length - 1 by omega,List.getElem?_map,hx]; rfl
  exact ⟨by kernel_rfl,_,_,⟨rfl,rfl⟩,by kernel_rfl,⟨rf,tv⟩,⟨rf,rf,rf,rf,rf,rf,tv⟩,tv⟩
theorem GO (v:RV):aO Tryz.prog 24 [.ptr 0 0] 1 (Nl v) 0 [.dv (I v.work)] (Nl { v with work:=0 }):=by
 refine aJ aD mixed (af _) (ai _) Tryz.func24 rfl rfl (by kernel_rfl) ?_
 exact ⟨_,_,⟨rfl,rfl⟩,by kernel_rfl,⟨rf,tv⟩,⟨rf,rf,rf,rf,rf,rf,tv⟩,tv⟩
theorem IF (v v':RV):∀j,j ≠ 0→aa (Nl v) j=aa (DI v') j∧J9 0 (aa (DI v') j)=true:=by
 intro j hj
 match j,hj with
 | j+1,_=>exact ⟨rfl,rfl⟩
theorem Ej (v:RV) (hl:m8 v.steps) (R8:v.steps.length≤50) (st:St) (Ve:st.mv.length≤4) (hw:0≤v.ab∧v.ab≤1099511627776) (SG:0≤v.work∧v.work≤1000000000000) (kX:0≤bs v.steps∧bs v.steps≤1099511627776) :
  aO Tryz.prog 20 [.ptr 0 0,zC st] 1 (Nl v) 0 [.dv (I (ie v st))] (Nl (if ie v st=0 then kQ v st else v)) :=
 xN (ds:=PO v) (uc:=PO (if ie v st=0 then kQ v st else v)) (xF v hl R8 st Ve hw SG kX) (i:=0) (by omega) rfl rfl (vn _) (IF _ _) rfl rfl (vn _) (IF _ _) (.ptr (.same _ rfl .nil))
def IG (s:Vs) (v:RV):aj:=vK false s++[(6,.cells (iU (PO v)))]
theorem Ek (s:Vs) (v:RV):∀j,j ≠ 6→aa (IG s v) j=aa (rV s v) j∧J9 6 (aa (rV s v) j)=true:=by
 intro j hj
 match j,hj with
 | 0,_=>exact ⟨rfl,rfl⟩
 | 1,_=>exact ⟨rfl,rfl⟩
 | 2,_=>exact ⟨rfl,rfl⟩
 | 3,_=>exact ⟨rfl,rfl⟩
 | 4,_=>exact ⟨rfl,rfl⟩
 | 5,_=>exact ⟨rfl,rfl⟩
 | j+7,_=>exact ⟨rfl,rfl⟩
theorem GP {s:Vs} {S:SS} {N:Nat} {v:RV} (h:Rl s S N v) (hN:N≤40):aO Tryz.prog 30 [.ptr 0 0,.ptr 6 0] 7 (IG s v) 0 [.dv (B true)] (IG s v) :=
 xN (ds:=PO v) (uc:=PO v) (tg h hN) (i:=6) (by omega) rfl rfl (vn _) (Ek _ _) rfl rfl (vn _) (Ek _ _) (.same _ rfl (.ptr .nil))
theorem Rl.copy {s:Vs} {S:SS} {N:Nat} {v:RV} (h:Rl s S N v):Rl (copyV s) S N v :=
 {ok:={ bK:={ h.ok.bK with
   rl:=by show (s.rk.map _).length=4; rw [List.length_map]; exact h.ok.bK.rl
   rk:=fun i hi=>by
    have h1:=h.ok.bK.rk i hi
    have hl:i<s.rk.length:=by rw [h.ok.bK.rl]; exact hi
    rw [List.getD_eq_getElem?_getD,List.getElem?_eq_getElem hl] at h1
    show Pd s.H i ((s.rk.map fun x=>(PN x.2,x.2)).getD i (true,[]))
    rw [List.getD_eq_getElem?_getD,List.getElem?_map,List.getElem?_eq_getElem hl]
    refine ⟨fun e=>?_,h1.2⟩
    have e:s.rk[i].2.isEmpty=true:=e
    exact List.isEmpty_iff.1 e },xx:={ h.ok.xx with n3:={ h.ok.xx.n3 with } },Pf:=h.ok.Pf,Pg:=h.ok.Pg,wk:=h.ok.wk,vb:=h.ok.vb }
  coin:=h.coin,ab:=h.ab,aE:=h.aE,hold:=h.hold,last:=h.last,work:=h.work,SJ:=h.SJ,len:=h.len,Pn:=h.Pn,J1:=h.J1 }
theorem El (l:List Int) {z:FS} (h0:z.i=0) (hR:Rl z.s z.S z.N z.v) (hN:z.N≤8):∀k,k≤10→(dN l z k).i=k∧(dN l z k).N≤8+k∧Rl (dN l z k).s (dN l z k).S (dN l z k).N (dN l z k).v
 | 0,_=>⟨h0,hN,hR⟩
 | k+1,hk=>by
  obtain ⟨h1,h2,h3⟩:=El l h0 hR hN k (by omega)
  show (du l (dN l z k)).i=k+1∧(du l (dN l z k)).N≤8+(k+1)∧Rl (du l (dN l z k)).s (du l (dN l z k)).S (du l (dN l z k)).N (du l (dN l z k)).v
  generalize dN l z k=z at *
  have ak:=o3 l (2 * (z.i:Int)) (bs z.v.steps) false
  have fA:=rS h3 (by omega) ak
  unfold du
  cases hq:ez z.s z.S (eg l (2 * (z.i:Int)) (bs z.v.steps) false) with
  | err e=>exact ⟨by show z.i+1=_; omega,by show z.N≤_; omega,h3⟩
  | ok A =>
   rw [hq] at fA
   exact ⟨by show z.i+1=_; omega,by show z.N+1≤_; omega,fA.2⟩
end Go.Proofs.YtpbdohkbiklflaaGreatDoor
namespace Go.Proofs.YtpbdohkbiklflaaGreatDoor
open Go.TM
variable [cG]
set_option maxRecDepth 100000
def cpK (s:Vs) (v:RV):aj:=[(9,.cells [.dv (I 4),.dv (I s.coin),.dv (I s.ab),.dv (I s.aE),.dv (I s.last),.dv (I s.work),.own 10 0 0 [],.own 11 0 0 [],.own 13 0 0 [],.own 14 0 0 [],.own 12 0 0 []]),(10,.tree 0 0 (.omap dw (s.H.map ni))),(11,.tree 0 0 (vK.gk s.cI)),(12,.tree 0 0 (vK.gk s.bH)),(13,.tree 0 0 (.aw 1 (s.rk.map Cc))),(14,.tree 0 0 (.aw 1 (s.sl.map kj))),(15,.cells (iU (PO v)))]
def Nm (m:List Int) (tick:Int) (s:Vs) (v:RV) (z:FS) (j:Nat):aY:=⟨16,[(1,.dv (eE m)),(3,.dv (I tick)),(9,.ptr 4 0),(10,.own 8 0 0 []),(12,.ptr 9 0),(13,.ptr 15 0),(14,.dv (I j))],Vk false s v++cpK (dN m z j).s (dN m z j).v⟩
set_option maxHeartbeats 8000000 in
theorem GQ (l m:List Int) (ab tick:Int) (hl:∀x∈l,yw x) (hm:∀x∈m,yw x) (hw:yw ab) (ht:yw tick):cr Tryz.prog 8 [eE l,eE m,I ab,I tick] [B true]:=by
 refine bq aD mixed (af _) (ai _) Tryz.func8 rfl (by kernel_rfl) rfl ?_
 have b1:=o0 ab 12 (by omega)
 have b2:=o0 tick 8 (by omega)
 have hR:=(vm l b1 8 (by omega)).2.2
 have hN:=(vm l b1 8 (by omega)).2.1
 refine .inr ⟨[],[.dv (eE l),.dv (I ab),.dv (I 1000),.dv (I (8:Nat)),.dv (B false)],[],9,_,_,Nd l ab 8 hl hw (by omega),by kernel_rfl,by kernel_rfl,⟨rf,rf,rf,rf,rf,tv⟩,tv,?_⟩
 have Zj:=og tick 8 ht (by omega) (by omega)
 generalize dN l (gW (jb ab 12)) 8=z at *
 generalize jb tick 8=tk at *
 obtain ⟨i0,N,s,S,v⟩:=z
 simp only at hR hN
 have Pj:=hR.ok.Pg
 have X3:=hR.J1
 have QG:=hR.last
 have hlen:=hR.len
 have JE:∀x,x∈s.rk→x.2.length≤1000∧(x.1=true→x.2=[]):=fun x hx=>by
  obtain ⟨i,hi⟩:=List.getElem?_of_mem hx
  have hl:i<4:=by have:=(List.getElem?_eq_some_iff.1 hi).1; rw [hR.ok.bK.rl] at this; exact this
  have h1:=hR.ok.bK.rk i hl
  rw [List.getD_eq_getElem?_getD,hi] at h1
  have h2:=BC h1
  have:=hR.ok.bK.len
  exact ⟨by simp only [Option.getD_some] at h2; omega,h1.1⟩
 have gX:∀x,x∈s.sl→x.2.length≤1000:=fun x hx=>by
  obtain ⟨i,hi⟩:=List.getElem?_of_mem hx
  have h1:=hR.ok.xx.n3.sl i x.1 x.2 (by rw [hi])
  have h5:(bI S i).length≤S.length:=by unfold bI; rw [List.length_map]; exact List.length_filter_le ..
  have:=hR.ok.xx.len
  rw [h1]; omega
 have Vb:s.bH.length=S.length:=by rw [hR.ok.xx.n3.bH,List.length_map]
 have hSl:=hR.ok.xx.len
 have Zc:=hR.ok.bK.tl
 have Vq:=GM s JE (by omega) (by omega) hR.ok.bK.rl hR.ok.xx.n3.Kp gX
 have X9:Nh s.rk=.aw 1 ((copyV s).rk.map Cc):=by simp only [Nh,copyV,List.map_map]; rfl
 have hz:=El m (z:=⟨0,N,copyV s,S,v⟩) rfl hR.copy hN
 refine ⟨fun h9=>by simp at h9,fun _=>?_⟩
 refine .inr ⟨[4,1,2,5,3,6],[.ptr 0 0],vK false s,6,_,_,Vq,by kernel_rfl,by kernel_rfl,⟨rfl,tv⟩,⟨⟨rf,rf,rf,rf,rf,rf,rfl,rfl,rfl,rfl,rfl,tv⟩,⟨rfl,rfl⟩,⟨rfl,rfl⟩,⟨rfl,rfl⟩,⟨rfl,rfl⟩,⟨rfl,rfl⟩,tv⟩,?_⟩
 repeat first | refine ⟨id,?_⟩ | refine ⟨fun _ h=>bW h,?_⟩ | refine ⟨fun _ h=>ay h,?_⟩ | refine ⟨fun h=>⟨h,fun h2=>aF h h2⟩,?_⟩ | refine ⟨fun h=>⟨h,fun h2=>aA h h2⟩,?_⟩
 have EP:=tg hR.copy (by omega)
 refine .inr ⟨[9,10,11,13,14,12,8],[.ptr 0 0,.own 6 0 0 []],rV (copyV s) v,0,_,_,EP,by kernel_rfl,by kernel_rfl,⟨rfl,rfl,tv⟩,⟨⟨rf,rf,rf,rf,rf,rf,rfl,rfl,rfl,rfl,rfl,tv⟩,⟨rfl,rfl⟩,⟨rfl,rfl⟩,⟨rfl,X9⟩,⟨rfl,rfl⟩,⟨rfl,rfl⟩,⟨rfl,rfl⟩,tv⟩,?_⟩
 refine ⟨rfl,?_⟩
 repeat first | refine ⟨id,?_⟩ | refine ⟨fun _ h=>bW h,?_⟩ | refine ⟨fun _ h=>ay h,?_⟩ | refine ⟨fun h=>⟨h,fun h2=>aF h h2⟩,?_⟩ | refine ⟨fun h=>⟨h,fun h2=>aA h h2⟩,?_⟩
 refine ⟨fun h9=>by simp at h9,fun _=>?_⟩
 refine ⟨Nat,Nm m tick s v ⟨0,N,copyV s,S,v⟩,fun j=>j≤4,fun j=>4 - j,0,fun _=>rfl,⟨⟨rf,rf,rfl,rfl,rfl,rfl,rf,tv⟩,⟨⟨rfl,rfl⟩,⟨rfl,rfl⟩,⟨rfl,rfl⟩,⟨rf,rf,rf,rf,rf,rf,rfl,rfl,rfl,rfl,rfl,tv⟩,⟨rfl,rfl⟩,⟨rfl,rfl⟩,⟨rfl,rfl⟩,⟨rf,rf,rf,rf,rf,rf,rfl,rfl,rfl,rfl,rfl,tv⟩,⟨rfl,rfl⟩,⟨rfl,rfl⟩,⟨rfl,rfl⟩,⟨rfl,rfl⟩,⟨rfl,rfl⟩,⟨rf,rf,rf,rf,rf,rf,tv⟩,tv⟩,rfl,rfl⟩,Nat.zero_le _,?_⟩
 rintro j hj
 obtain ⟨EO,Jy,GR⟩:=hz j (by omega)
 refine And.intro ?_ ?_
 ·intro h9
  have QQ:j<4:=by have:=of_decide_eq_true h9; omega
  have gN:dN m ⟨0,N,copyV s,S,v⟩ (j+1)=du m (dN m ⟨0,N,copyV s,S,v⟩ j):=rfl
  generalize hzz:dN m ⟨0,N,copyV s,S,v⟩ j=z at *
  obtain ⟨i,N2,s2,S2,v2⟩:=z
  simp only at EO Jy GR
  subst EO
  have Zk:=GR.ok.Pg
  have Zl:=GR.J1
  have Zm:=GR.ok.Pf
  have aag:=GR.ok.wk
  have Zn:=GR.len
  have aah:=GR.last
  have yD:=GR.SK (by omega)
  refine ⟨fun _=>⟨by show _≤2 * (i:Int); omega,by show 2 * (i:Int)≤_; omega⟩,?_⟩
  refine .inr ⟨[15],[.ptr 0 0],Nl v2,0,_,_,GN v2 (by omega),by kernel_rfl,by kernel_rfl,⟨rfl,tv⟩,⟨⟨rf,rf,rf,rf,rf,rf,tv⟩,tv⟩,?_⟩
  refine .inl ⟨_,fun _=>(zX m hm (2 * (i:Int)) (bs v2.steps) false (by omega) (by omega)).ok,?_⟩
  have ak:=o3 m (2 * (i:Int)) (bs v2.steps) false
  unfold du at gN
  simp only at gN
  generalize eg m (2 * (i:Int)) (bs v2.steps) false=st at ak gN
  have hf:=xH GR.ok (by omega) (by omega) st ak
  have fA:=rS GR (by omega) ak
  have PL:=Ej v2 yD (by omega) st ak (by rw [GR.ab]; omega) (by rw [GR.work]; omega) (by omega)
  cases hq:ez s2 S2 st with
  | err e =>
   rw [hq] at hf fA gN
   simp only at hf fA gN
   rw [fA.1,if_neg fA.2] at PL
   refine .inr ⟨[9,10,11,13,14,12],[.ptr 0 0,zC st],vK false s2,9,_,_,hf,by kernel_rfl,by kernel_rfl,⟨rfl,⟨rf,rf,rf,rf,rf,rf,rf,tv⟩,tv⟩,⟨⟨rf,rf,rf,rf,rf,rf,rfl,rfl,rfl,rfl,rfl,tv⟩,⟨rfl,rfl⟩,⟨rfl,rfl⟩,⟨rfl,rfl⟩,⟨rfl,rfl⟩,⟨rfl,rfl⟩,tv⟩,?_⟩
   refine .inr ⟨[15],[.ptr 0 0,zC st],Nl v2,0,_,_,PL,by kernel_rfl,by kernel_rfl,⟨rfl,⟨rf,rf,rf,rf,rf,rf,rf,tv⟩,tv⟩,⟨⟨rf,rf,rf,rf,rf,rf,tv⟩,tv⟩,?_⟩
   refine ⟨by kernel_rfl,?_⟩
   refine And.intro (fun h=>by simp at h) ?_
   intro _
   refine ⟨fun _=>⟨by show _≤(i:Int)+1; omega,by show (i:Int)+1≤_; omega⟩,i+1,?_⟩
   unfold Nm
   rw [gN]
   exact ⟨⟨⟨rf,rf,rfl,rfl,rfl,rfl,au (by simp),tv⟩,⟨⟨rfl,rfl⟩,⟨rfl,rfl⟩,⟨rfl,rfl⟩,⟨rf,rf,rf,rf,rf,rf,rfl,rfl,rfl,rfl,rfl,tv⟩,⟨rfl,rfl⟩,⟨rfl,rfl⟩,⟨rfl,rfl⟩,⟨rf,rf,rf,rf,rf,rf,rfl,rfl,rfl,rfl,rfl,tv⟩,⟨rfl,rfl⟩,⟨rfl,rfl⟩,⟨rfl,rfl⟩,⟨rfl,rfl⟩,⟨rfl,rfl⟩,⟨rf,rf,rf,rf,rf,rf,tv⟩,tv⟩,rfl,rfl⟩,by show i+1≤4; omega,by show 4 - (i+1)<4 - i; omega⟩
  | ok A =>
   rw [hq] at hf fA gN
   simp only at hf fA gN
   rw [fA.1,if_pos rfl] at PL
   generalize cN s2 S2 st (aL s2 A)=s3 at *
   generalize n5 s2 S2 st=S3 at *
   generalize kQ v2 st=v3 at *
   refine .inr ⟨[9,10,11,13,14,12],[.ptr 0 0,zC st],vK false s2,9,_,_,hf,by kernel_rfl,by kernel_rfl,⟨rfl,⟨rf,rf,rf,rf,rf,rf,rf,tv⟩,tv⟩,⟨⟨rf,rf,rf,rf,rf,rf,rfl,rfl,rfl,rfl,rfl,tv⟩,⟨rfl,rfl⟩,⟨rfl,rfl⟩,⟨rfl,rfl⟩,⟨rfl,rfl⟩,⟨rfl,rfl⟩,tv⟩,?_⟩
   refine .inr ⟨[15],[.ptr 0 0,zC st],Nl v2,0,_,_,PL,by kernel_rfl,by kernel_rfl,⟨rfl,⟨rf,rf,rf,rf,rf,rf,rf,tv⟩,tv⟩,⟨⟨rf,rf,rf,rf,rf,rf,tv⟩,tv⟩,?_⟩
   refine ⟨by kernel_rfl,?_⟩
   refine And.intro (fun h=>by simp at h) ?_
   intro _
   refine ⟨fun _=>⟨by show _≤(i:Int)+1; omega,by show (i:Int)+1≤_; omega⟩,i+1,?_⟩
   unfold Nm
   rw [gN]
   exact ⟨⟨⟨rf,rf,rfl,rfl,rfl,rfl,au (by simp),tv⟩,⟨⟨rfl,rfl⟩,⟨rfl,rfl⟩,⟨rfl,rfl⟩,⟨rf,rf,rf,rf,rf,rf,rfl,rfl,rfl,rfl,rfl,tv⟩,⟨rfl,rfl⟩,⟨rfl,rfl⟩,⟨rfl,rfl⟩,⟨rf,rf,rf,rf,rf,rf,rfl,rfl,rfl,rfl,rfl,tv⟩,⟨rfl,rfl⟩,⟨rfl,rfl⟩,⟨rfl,rfl⟩,⟨rfl,rfl⟩,⟨rfl,rfl⟩,⟨rf,rf,rf,rf,rf,rf,tv⟩,tv⟩,rfl,rfl⟩,by show i+1≤4; omega,by show 4 - (i+1)<4 - i; omega⟩
 ·intro h9
  have QQ:j=4:=by have:=of_decide_eq_false h9; omega
  subst QQ
  generalize dN m ⟨0,N,copyV s,S,v⟩ 4=z at *
  obtain ⟨i,N2,s2,S2,v2⟩:=z
  simp only at EO Jy GR
  refine .inl (.inl ⟨_,fun _=>(ig v (by omega)).ok,rfl,?_⟩)
  refine .inl ⟨_,fun _=>Zj.ok,?_⟩
  refine ⟨fun _=>⟨by omega,by omega⟩,?_⟩
  obtain ⟨a,b,c,p,q,f,h1,h2⟩:=GH hR (by omega) 0 (bs v.steps+tk) (by omega)
  refine .inr ⟨[4,1,2,5,3,6],[.ptr 0 0,.dv (I 0),.dv (I (bs v.steps+tk))],vK false s,0,_,_,h1,by kernel_rfl,by kernel_rfl,⟨rfl,rf,rf,tv⟩,⟨⟨rf,rf,rf,rf,rf,rf,rfl,rfl,rfl,rfl,rfl,tv⟩,⟨rfl,rfl⟩,⟨rfl,rfl⟩,⟨rfl,rfl⟩,⟨rfl,rfl⟩,⟨rfl,rfl⟩,tv⟩,?_⟩
  refine .inl (.inl ⟨_,fun _=>(ig v (by omega)).ok,rfl,?_⟩)
  refine .inl ⟨_,fun _=>Zj.ok,?_⟩
  refine ⟨fun _=>⟨by omega,by omega⟩,?_⟩
  refine .inl (.inl ⟨_,fun _=>h2,rfl,?_⟩)
  refine .inr ⟨[4,1,2,5,3,6,8],[.ptr 0 0,.own 6 0 0 []],rV s v,0,_,_,tg hR (by omega),by kernel_rfl,by kernel_rfl,⟨rfl,rfl,tv⟩,⟨⟨rf,rf,rf,rf,rf,rf,rfl,rfl,rfl,rfl,rfl,tv⟩,⟨rfl,rfl⟩,⟨rfl,rfl⟩,⟨rfl,rfl⟩,⟨rfl,rfl⟩,⟨rfl,rfl⟩,⟨rfl,rfl⟩,tv⟩,?_⟩
  repeat first | refine ⟨id,?_⟩ | refine ⟨fun _ h=>bW h,?_⟩ | refine ⟨fun _ h=>ay h,?_⟩ | refine ⟨fun h=>⟨h,fun h2=>aF h h2⟩,?_⟩ | refine ⟨fun h=>⟨h,fun h2=>aA h h2⟩,?_⟩
  refine .inr ⟨[9,10,11,13,14,12,15],[.ptr 0 0,.ptr 6 0],IG s2 v2,0,_,_,GP GR (by omega),by kernel_rfl,by kernel_rfl,⟨rfl,rfl,tv⟩,⟨⟨rf,rf,rf,rf,rf,rf,rfl,rfl,rfl,rfl,rfl,tv⟩,⟨rfl,rfl⟩,⟨rfl,rfl⟩,⟨rfl,rfl⟩,⟨rfl,rfl⟩,⟨rfl,rfl⟩,⟨rf,rf,rf,rf,rf,rf,tv⟩,tv⟩,?_⟩
  refine ⟨rfl,?_⟩
  repeat first | refine ⟨id,?_⟩ | refine ⟨fun _ h=>bW h,?_⟩ | refine ⟨fun _ h=>ay h,?_⟩ | refine ⟨fun h=>⟨h,fun h2=>aF h h2⟩,?_⟩ | refine ⟨fun h=>⟨h,fun h2=>aA h h2⟩,?_⟩
  refine .inr ⟨[9,10,11,13,14,12],[.ptr 0 0],vK false s2,0,_,_,zA s2,by kernel_rfl,by kernel_rfl,⟨rfl,tv⟩,⟨⟨rf,rf,rf,rf,rf,rf,rfl,rfl,rfl,rfl,rfl,tv⟩,⟨rfl,rfl⟩,⟨rfl,rfl⟩,⟨rfl,rfl⟩,⟨rfl,rfl⟩,⟨rfl,rfl⟩,tv⟩,?_⟩
  refine ⟨rfl,?_⟩
  refine .inr ⟨[15],[.ptr 0 0],Nl v2,0,_,_,GO v2,by kernel_rfl,by kernel_rfl,⟨rfl,tv⟩,⟨⟨rf,rf,rf,rf,rf,rf,tv⟩,tv⟩,?_⟩
  have NV:(s2.work == v2.work)=true:=by rw [GR.work]; simp
  have uR:(s.work == v.work)=true:=by rw [hR.work]; simp
  have aR:bw (bif bif true then true else false then s2.work == v2.work else false) true=true:=by rw [NV]; rfl
  refine ⟨rfl,?_⟩
  repeat first | refine ⟨id,?_⟩ | refine ⟨fun _ h=>bW h,?_⟩ | refine ⟨fun _ h=>ay h,?_⟩ | refine ⟨fun h=>⟨h,fun h2=>aF h h2⟩,?_⟩ | refine ⟨fun h=>⟨h,fun h2=>aA h h2⟩,?_⟩
  refine .inr ⟨[4,1,2,5,3,6],[.ptr 0 0],vK false s,0,_,_,zA s,by kernel_rfl,by kernel_rfl,⟨rfl,tv⟩,⟨⟨rf,rf,rf,rf,rf,rf,rfl,rfl,rfl,rfl,rfl,tv⟩,⟨rfl,rfl⟩,⟨rfl,rfl⟩,⟨rfl,rfl⟩,⟨rfl,rfl⟩,⟨rfl,rfl⟩,tv⟩,?_⟩
  refine ⟨aR,?_⟩
  repeat first | refine ⟨id,?_⟩ | refine ⟨fun _ h=>bW h,?_⟩ | refine ⟨fun _ h=>ay h,?_⟩ | refine ⟨fun h=>⟨h,fun h2=>aF h h2⟩,?_⟩ | refine ⟨fun h=>⟨h,fun h2=>aA h h2⟩,?_⟩
  refine .inr ⟨[8],[.own 0 0 0 []],DI v,0,_,_,JJ v,by kernel_rfl,by kernel_rfl,⟨rfl,tv⟩,⟨⟨rfl,rfl⟩,tv⟩,?_⟩
  refine ⟨aR,?_⟩
  repeat first | refine ⟨id,?_⟩ | refine ⟨fun _ h=>bW h,?_⟩ | refine ⟨fun _ h=>ay h,?_⟩ | refine ⟨fun h=>⟨h,fun h2=>aF h h2⟩,?_⟩ | refine ⟨fun h=>⟨h,fun h2=>aA h h2⟩,?_⟩
  refine ⟨fun _=>rfl,fun _=>rfl,?_⟩
  repeat first | refine ⟨id,?_⟩ | refine ⟨fun _ h=>bW h,?_⟩ | refine ⟨fun _ h=>ay h,?_⟩ | refine ⟨fun h=>⟨h,fun h2=>aF h h2⟩,?_⟩ | refine ⟨fun h=>⟨h,fun h2=>aA h h2⟩,?_⟩
  refine .inl ⟨_,fun _=>Gz.ok,?_⟩
  repeat first | refine ⟨id,?_⟩ | refine ⟨fun _ h=>bW h,?_⟩ | refine ⟨fun _ h=>ay h,?_⟩ | refine ⟨fun h=>⟨h,fun h2=>aF h h2⟩,?_⟩ | refine ⟨fun h=>⟨h,fun h2=>aA h h2⟩,?_⟩
  refine ⟨DV.Le.of_eq ?_,tv⟩
  show DV.bool (bif bif bif bif bif bif true then true else false then s2.work == v2.work else false then s.work == v.work else false then f == f else false then c == c else false then true else false)=DV.bool true
  rw [uR,NV]; simp
end Go.Proofs.YtpbdohkbiklflaaGreatDoor
namespace Go.Proofs.YtpbdohkbiklflaaGreatDoor
open Go.TM Go.ChangeShapes Go.WideShapes Go.ChangeAt Go.RowKit
theorem own:ownKnob Tryz.prog.godebug=none:=by kernel_rfl
theorem laidOut:laidOutB Tryz.prog=true:=by kernel_rfl
theorem GS {n:Int} (h:(Lit.int .i64 n).wf=true):yw n:=by simpa [yw,Lit.wf,IntKind.min,IntKind.max,IntKind.signed,IntKind.bits] using h
theorem IH {H:Type} {enc:TypeId × Value→H} {W:World} {v:Value} {d:DataW H} {p:List MemPlace} (hv:∃a len cap,v=.slice a len cap) (h:DataW.Trod enc Tryz.prog W 0 (fun _=>true) true 30 v d p) :
  ∃zs:List Int,bo (fun b=>W.heap[b]?) (eE zs) v∧∀x,x∈zs→yw x:=by
 obtain ⟨fuel,h⟩:=h
 obtain ⟨a0,l0,c0,rfl⟩:=hv
 rcases open_ints Tryz.underlying30 Tryz.underlying3 (by kernel_rfl) h with ⟨h1,-⟩ | ⟨a,len,cap,zs,h1,h2,h3,h4,h5,h6,h7,h8⟩
 ·simp [Value.cells] at h1
  obtain ⟨rfl,rfl,rfl⟩:=h1
  exact ⟨[],.slnil 1,fun x hx=>by simp at hx⟩
 ·simp [Value.cells] at h1
  obtain ⟨rfl,rfl,rfl⟩:=h1
  simp only [if_true] at h5
  have hlen:((zs.take l0).map I).length=l0:=by simp; omega
  refine ⟨zs.take l0,?_,fun x hx=>GS (h8 x (List.mem_of_mem_take hx))⟩
  ·have hd:=bo.sl (M:=fun b=>W.heap[b]?) 1 ((zs.take l0).map I) a c0 (fun i _=>.int .i64 (zs.getD i 0)) (by rw [hlen]; exact h3) (fun x hx=>by
    obtain ⟨n,-,rfl⟩:=List.mem_map.1 hx
    exact ⟨rfl,fun d hd=>by simp only [DV.cells,List.mem_singleton] at hd; subst hd; rfl⟩) (fun i j hi hj=>by
    have EI:j=0:=by omega
    subst EI
    rw [hlen] at hi
    have:=h7 i (by omega)
    rw [Nat.mul_one,Nat.add_zero]
    exact this) (fun i x j d hx hd=>by
    have hi:i<l0:=by
     have:=(List.getElem?_eq_some_iff.1 hx).1
     rw [hlen] at this; exact this
    rw [List.getElem?_map,List.getElem?_take_of_lt hi,List.getElem?_eq_getElem (by omega)] at hx
    simp only [Option.map_some,Option.some.injEq] at hx
    subst hx
    match j,hd with
    | 0,hd =>
     simp only [DV.cells,List.getElem?_cons_zero,Option.some.injEq] at hd
     subst hd
     have e:zs.getD i 0=zs[i]'(by omega):=by simp [List.getD,List.getElem?_eq_getElem (show i<zs.length by omega)]
     rw [e]
     exact .int .i64 _
    | j+1,hd=>simp [DV.cells] at hd)
   rw [hlen] at hd
   exact hd
theorem Nn {W:World} (h:laidMetH Tryz.prog [("worldmint/lexer.kinds",Rows.laid_worldmint_lexer_kinds)] W):∃(ty:TypeId) (fr:Nat × Nat),W.heap[0]?=some (.cells Jv ty fr):=by
 have ht:Lib.TabIs Tryz.prog W "worldmint/lexer.kinds" .u8 (zt.map fun n=>((n:Nat):Int)) :=
  Lib.tabIs_of_head (rest:=[]) (g:=0) (t:=210) (e:=5) (n:=128) (by kernel_rfl) (by kernel_rfl) Tryz.underlying210 Tryz.underlying5 (by kernel_rfl) (by kernel_rfl) h
 have hg:Tryz.prog.globalNamed "worldmint/lexer.kinds"=some 0:=by kernel_rfl
 unfold Lib.TabIs World.var? at ht
 rw [hg] at ht
 simp only [Option.bind_some] at ht
 split at ht
 ·rename_i cs ty fr hh
  injection ht with ht
  refine ⟨ty,fr,?_⟩
  rw [hh,ht]
  simp only [Jv,List.map_map]
  rfl
 ·cases ht
def No (w:World):World:={ w with heap:=w.heap.modify 0 fun
  | .cells _ t frozen=>.cells Jv t frozen
  | o=>o }
end Go.Proofs.YtpbdohkbiklflaaGreatDoor
