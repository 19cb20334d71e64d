import Derived.Test.YtpbdohkbiklflaaGreatDoorCM33
set_option linter.unusedVariables false
set_option linter.unusedSimpArgs false
set_option linter.unusedSectionVars false
namespace Go.Proofs.YtpbdohkbiklflaaGreatDoor
open Go.TM
variable [cG]
set_option maxRecDepth 100000
def copyV (s:Vs):Vs:={ s with rk:=s.rk.map fun x=>(PN x.2,x.2) }
def cyC (s:Vs) (a b:AV):List AV:=[.dv (I 4),.dv (I s.coin),.dv (I s.ab),.dv (I s.aE),.dv (I s.last),.dv (I s.work),.own 7 0 0 [],.own 8 0 0 [],a,b,.own 9 0 0 []]
def X8 (s:Vs) (a b:AV):aj:=vK false s++[(6,.cells (cyC s a b)),(7,.tree 0 0 (.omap dw (s.H.map ni))),(8,.tree 0 0 (vK.gk s.cI)),(9,.tree 0 0 (vK.gk s.bH))]
def Nh (l:List (Bool × List Rk)):DV:=.aw 1 (l.map fun x=>cz (PN x.2) x.2)
def SX (s:Vs) (j:Nat):aY:=⟨11,[(0,.ptr 0 0),(3,.ptr 6 0),(33,.own 3 0 0 []),(34,.dv (I s.rk.length)),(35,.dv (I j))],X8 s (.own 10 0 0 []) (.own 4 0 0 [])++[(10,.tree 0 0 (Nh (s.rk.take j)))]⟩
def SY (s:Vs) (j:Nat):aY:=⟨12,[(0,.ptr 0 0),(3,.ptr 6 0),(51,.own 4 0 0 []),(52,.dv (I s.sl.length)),(53,.dv (I j))],X8 s (.own 10 0 0 []) (.own 11 0 0 [])++[(10,.tree 0 0 (Nh s.rk)),(11,.tree 0 0 (.aw 1 ((s.sl.take j).map kj)))]⟩
set_option maxHeartbeats 4000000 in
theorem GM (s:Vs) (hr:∀x,x∈s.rk→x.2.length≤1000∧(x.1=true→x.2=[])) (ht:s.cI.length≤1000) (oT:s.bH.length≤1000) (QB:s.rk.length=4) (gX:s.sl.length=4) (hs:∀x,x∈s.sl→x.2.length≤1000) :
  aO Tryz.prog 31 [.ptr 0 0] 6 (vK false s) 6 [.ptr 6 0] (X8 s (.own 10 0 0 []) (.own 11 0 0 [])++[(10,.tree 0 0 (Nh s.rk)),(11,.tree 0 0 (.aw 1 (s.sl.map kj)))]):=by
 refine aJ aD mixed (af _) (ai _) Tryz.func31 rfl rfl (by kernel_rfl) ?_
 refine .inr ⟨[1],[.own 0 0 0 []],[(0,.tree 0 0 (.omap dw (s.H.map ni)))],1,_,_,yJ s.H,by kernel_rfl,by kernel_rfl,⟨rfl,tv⟩,⟨⟨rfl,rfl⟩,tv⟩,?_⟩
 refine .inr ⟨[2],[.own 0 0 0 []],[(0,.tree 0 0 (.aw 1 (s.cI.map I)))],1,_,_,uh s.cI (by omega),by kernel_rfl,by kernel_rfl,⟨rfl,tv⟩,⟨⟨rfl,rfl⟩,tv⟩,?_⟩
 refine .inr ⟨[5],[.own 0 0 0 []],[(0,.tree 0 0 (.aw 1 (s.bH.map I)))],1,_,_,uh s.bH (by omega),by kernel_rfl,by kernel_rfl,⟨rfl,tv⟩,⟨⟨rfl,rfl⟩,tv⟩,?_⟩
 refine ⟨Nat,SX s,fun j=>j≤4,fun j=>4 - j,0,fun _=>rfl,⟨⟨rfl,rfl,rfl,au (by rw [List.length_map]),rf,tv⟩,⟨⟨rf,rf,rf,rf,rf,rf,rfl,rfl,rfl,rfl,rfl,tv⟩,⟨rfl,rfl⟩,⟨rfl,rfl⟩,⟨rfl,rfl⟩,⟨rfl,rfl⟩,⟨rfl,rfl⟩,⟨rf,rf,rf,rf,rf,rf,rfl,rfl,⟨rfl,rfl,rfl,rfl,1,rfl⟩,rfl,rfl,tv⟩,⟨rfl,rfl⟩,⟨rfl,rfl⟩,⟨rfl,rfl⟩,⟨rfl,rfl,1,rfl⟩,tv⟩,rfl,rfl⟩,by omega,?_⟩
 rintro j hj
 refine And.intro ?_ ?_
 ·intro h
  have QQ:j<4:=by have:=of_decide_eq_true h; rw [QB] at this; omega
  have uA:j<s.rk.length:=by omega
  have hx:=List.getElem?_eq_getElem uA
  obtain ⟨q1,q2⟩:=hr _ (List.mem_of_getElem? hx)
  generalize s.rk[j]=x at hx q1 q2
  obtain ⟨f,l⟩:=x
  simp only at q1 q2
  have H4:(s.rk.map Cc)[j]?=some (cz f l):=by rw [List.getElem?_map,hx]; rfl
  have Vq:=GL H4 q2 q1
  refine ⟨fun _=>⟨by omega,by rw [List.length_map,QB]; omega⟩,cz f l,fun _=>H4,?_⟩
  refine .inr ⟨[3],[.own 0 0 0 [.el j 0]],[(0,.tree 0 0 (.aw 1 (s.rk.map Cc)))],1,_,_,Vq,by kernel_rfl,by kernel_rfl,⟨rfl,tv⟩,⟨⟨rfl,rfl⟩,tv⟩,?_⟩
  refine .inr (.inl ⟨[cz (PN l) l],rfl,⟨rfl,tv⟩,(by simp; rfl),?_⟩)
  refine .inr (.inr ⟨rfl,[cz (PN l) l],dm.refl _,(by rw [show (nth tab (nth tab 76).elem).bytes=8 by kernel_rfl,List.length_map,List.length_take]; simp; omega),(by rw [List.length_map,List.length_take]; simp; omega),?_⟩)
  refine ⟨by kernel_rfl,fun _=>⟨by omega,by omega⟩,j+1,⟨⟨rfl,rfl,rfl,rf,au (by omega),tv⟩,⟨⟨rf,rf,rf,rf,rf,rf,rfl,rfl,rfl,rfl,rfl,tv⟩,⟨rfl,rfl⟩,⟨rfl,rfl⟩,⟨rfl,rfl⟩,⟨rfl,rfl⟩,⟨rfl,rfl⟩,⟨rf,rf,rf,rf,rf,rf,rfl,rfl,rfl,rfl,rfl,tv⟩,⟨rfl,rfl⟩,⟨rfl,rfl⟩,⟨rfl,rfl⟩,⟨rfl,?_⟩,tv⟩,rfl,rfl⟩,by omega,by show 4 - (j+1)<4 - j; omega⟩
  show DV.aw 1 ((s.rk.take j).map (fun x=>cz (PN x.2) x.2)++[cz (PN l) l])=DV.aw 1 ((s.rk.take (j+1)).map fun x=>cz (PN x.2) x.2)
  rw [List.take_add_one,hx]; simp
 ·intro h
  have QQ:j=4:=by have:=of_decide_eq_false h; rw [QB] at this; omega
  subst QQ
  refine ⟨Nat,SY s,fun j=>j≤4,fun j=>4 - j,0,fun _=>rfl,⟨⟨rfl,rfl,rfl,au (by rw [List.length_map]),rf,tv⟩,⟨⟨rf,rf,rf,rf,rf,rf,rfl,rfl,rfl,rfl,rfl,tv⟩,⟨rfl,rfl⟩,⟨rfl,rfl⟩,⟨rfl,rfl⟩,⟨rfl,rfl⟩,⟨rfl,rfl⟩,⟨rf,rf,rf,rf,rf,rf,rfl,rfl,rfl,⟨rfl,rfl,rfl,rfl,1,rfl⟩,rfl,tv⟩,⟨rfl,rfl⟩,⟨rfl,rfl⟩,⟨rfl,rfl⟩,⟨rfl,by rw [List.take_of_length_le (by omega)]⟩,⟨rfl,rfl,1,rfl⟩,tv⟩,rfl,rfl⟩,by omega,?_⟩
  rintro j hj
  refine And.intro ?_ ?_
  ·intro h
   have QQ:j<4:=by have:=of_decide_eq_true h; rw [gX] at this; omega
   have uA:j<s.sl.length:=by omega
   have hx:=List.getElem?_eq_getElem uA
   have q1:=hs _ (List.mem_of_getElem? hx)
   generalize s.sl[j]=x at hx q1
   obtain ⟨f,l⟩:=x
   simp only at q1
   have H4:(s.sl.map kj)[j]?=some (Sn f l):=by rw [List.getElem?_map,hx]; rfl
   have kL:DV.aw 1 ((s.sl.take j).map kj++[Sn f l])=DV.aw 1 ((s.sl.take (j+1)).map kj):=by
    rw [List.take_add_one,hx]; simp [kj]
   refine ⟨fun _=>⟨by omega,by rw [List.length_map,gX]; omega⟩,Sn f l,fun _=>H4,?_⟩
   cases f with
   | true =>
    refine .inr ⟨[],[.dv .aG],[],0,_,_,BW,by kernel_rfl,by kernel_rfl,⟨rf,tv⟩,tv,?_⟩
    refine .inr (.inl ⟨[.aG],rfl,⟨rf,tv⟩,(by simp; rfl),?_⟩)
    refine .inr (.inr ⟨rfl,[.aG],dm.refl _,(by rw [show (nth tab (nth tab 75).elem).bytes=24 by kernel_rfl,List.length_map,List.length_take]; simp; omega),(by rw [List.length_map,List.length_take]; simp; omega),?_⟩)
    exact ⟨by kernel_rfl,fun _=>⟨by omega,by omega⟩,j+1,⟨⟨rfl,rfl,rfl,rf,au (by omega),tv⟩,⟨⟨rf,rf,rf,rf,rf,rf,rfl,rfl,rfl,rfl,rfl,tv⟩,⟨rfl,rfl⟩,⟨rfl,rfl⟩,⟨rfl,rfl⟩,⟨rfl,rfl⟩,⟨rfl,rfl⟩,⟨rf,rf,rf,rf,rf,rf,rfl,rfl,rfl,rfl,rfl,tv⟩,⟨rfl,rfl⟩,⟨rfl,rfl⟩,⟨rfl,rfl⟩,⟨rfl,rfl⟩,⟨rfl,kL⟩,tv⟩,rfl,rfl⟩,by omega,by show 4 - (j+1)<4 - j; omega⟩
   | false =>
    refine .inr ⟨[4],[.own 0 0 0 [.el j 0]],[(0,.tree 0 0 (.aw 1 (s.sl.map kj)))],1,_,_,BV H4 (by omega),by kernel_rfl,by kernel_rfl,⟨rfl,tv⟩,⟨⟨rfl,rfl⟩,tv⟩,?_⟩
    refine .inr (.inl ⟨[.aw 5 (l.map bQ)],rfl,⟨rfl,tv⟩,(by simp; rfl),?_⟩)
    refine .inr (.inr ⟨rfl,[.aw 5 (l.map bQ)],dm.refl _,(by rw [show (nth tab (nth tab 75).elem).bytes=24 by kernel_rfl,List.length_map,List.length_take]; simp; omega),(by rw [List.length_map,List.length_take]; simp; omega),?_⟩)
    exact ⟨by kernel_rfl,fun _=>⟨by omega,by omega⟩,j+1,⟨⟨rfl,rfl,rfl,rf,au (by omega),tv⟩,⟨⟨rf,rf,rf,rf,rf,rf,rfl,rfl,rfl,rfl,rfl,tv⟩,⟨rfl,rfl⟩,⟨rfl,rfl⟩,⟨rfl,rfl⟩,⟨rfl,rfl⟩,⟨rfl,rfl⟩,⟨rf,rf,rf,rf,rf,rf,rfl,rfl,rfl,rfl,rfl,tv⟩,⟨rfl,rfl⟩,⟨rfl,rfl⟩,⟨rfl,rfl⟩,⟨rfl,rfl⟩,⟨rfl,kL⟩,tv⟩,rfl,rfl⟩,by omega,by show 4 - (j+1)<4 - j; omega⟩
  ·intro h
   have QQ:j=4:=by have:=of_decide_eq_false h; rw [gX] at this; omega
   subst QQ
   exact ⟨_,_,⟨rfl,rfl⟩,by kernel_rfl,⟨rfl,tv⟩,⟨rf,rf,rf,rf,rf,rf,rfl,rfl,rfl,rfl,rfl,tv⟩,⟨rfl,rfl⟩,⟨rfl,rfl⟩,⟨rfl,rfl⟩,⟨rfl,rfl⟩,⟨rfl,rfl⟩,⟨rf,rf,rf,rf,rf,rf,rfl,rfl,rfl,rfl,rfl,tv⟩,⟨rfl,rfl⟩,⟨rfl,rfl⟩,⟨rfl,rfl⟩,⟨rfl,rfl⟩,⟨rfl,by rw [List.take_of_length_le (by omega)]⟩,tv⟩
end Go.Proofs.YtpbdohkbiklflaaGreatDoor
