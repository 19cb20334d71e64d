import Derived.Test.YtpbdohkbiklflaaGreatDoorCM29
import Derived.Test.YtpbdohkbiklflaaGreatDoorCM30
import Derived.Test.YtpbdohkbiklflaaGreatDoorCM31
import Derived.Test.YtpbdohkbiklflaaGreatDoorCM21
import Derived.Test.YtpbdohkbiklflaaGreatDoorCM24
set_option linter.unusedVariables false
set_option linter.unusedSimpArgs false
set_option linter.unusedSectionVars false
namespace Go.Proofs.YtpbdohkbiklflaaGreatDoor
open Go.TM
variable [cG]
set_option maxRecDepth 100000
theorem Vi (h g:Bool) (X:Vs):Pr 3 0 1 (x9 false h g X) (x9 true h g X):=⟨_,rfl,rfl,fun j hj=>match j,hj with
 | 0,_=>.cells (.same _ (.same _ (.same _ (.same _ (.same _ (.same _ (.same _ (.same _ (.Vh (oe.refl _ _ _ _))))))))))
 | 1,_=>.refl _
 | 2,_=>.refl _
 | 3,hj=>absurd rfl hj
 | 4,_=>.refl _
 | 5,_=>.refl _
 | _+6,_=>(D8.refl ar.none:D8 3 0 1 ar.none ar.none)⟩
theorem Vj (f g:Bool) (X:Vs):Pr 4 0 1 (x9 f false g X) (x9 f true g X):=⟨_,rfl,rfl,fun j hj=>match j,hj with
 | 0,_=>.cells (.same _ (.same _ (.same _ (.same _ (.same _ (.same _ (.same _ (.same _ (.same _ (.Vh (oe.refl _ _ _ _)))))))))))
 | 1,_=>.refl _
 | 2,_=>.refl _
 | 3,_=>.refl _
 | 4,hj=>absurd rfl hj
 | 5,_=>.refl _
 | _+6,_=>(D8.refl ar.none:D8 4 0 1 ar.none ar.none)⟩
theorem xH {s:Vs} {S:SS} {L N:Nat} (h:Kq s S L N) (hL:L+8≤500) (hN:N≤99) (st:St) (hm:st.mv.length≤4) :
  match ez s S st with
  | .err e=>aO Tryz.prog 21 [.ptr 0 0,zC st] 6 (vK false s) 9 [.dv (I e)] (vK false s)
  | .ok A=>aO Tryz.prog 21 [.ptr 0 0,zC st] 6 (vK false s) 9 [.dv (I 0)] (x9 true true true (cN s S st (aL s A))):=by
 have hw:=ta h hL hN st hm
 cases hq:ez s S st with
 | err e=>rw [hq] at hw; exact hw
 | ok A =>
  rw [hq] at hw
  simp only at hw ⊢
  have h1:aO Tryz.prog 21 [.ptr 0 0,zC st] 6 (vK false s) 9 [.dv (I 0)] (x9 true (Gp s S st) true (cN s S st (aL s A))):=by
   cases hf:fU s A with
   | true=>rw [hf] at hw; exact hw
   | false=>rw [hf] at hw; exact xG hw (by omega) (.inl ⟨rfl,rfl⟩) (Vi _ _ _)
  cases hf:Gp s S st with
  | true=>rw [hf] at h1; exact h1
  | false=>rw [hf] at h1; exact xG h1 (by omega) (.inl ⟨rfl,rfl⟩) (Vj _ _ _)
theorem GB (coin ab aE:Int) (h:MV coin=false) (h2:Gv ab aE=false):aO Tryz.prog 12 [wg (Bn eJ),.dv (I coin),.dv (I ab),.dv (I aE)] 0 [] 2 [.ptr 1 0,.dv (I 0)] [(1,.cells (iU [I 4,I coin,I ab,I aE,ju [],I 0]))]:=by
 refine aJ aD mixed (af _) (ai _) Tryz.func12 rfl rfl (by kernel_rfl) ?_
 refine .inl ⟨_,fun _=>DW.ok,?_⟩
 refine ⟨fun h9=>by simp at h9,fun _=>?_⟩
 repeat first | refine ⟨id,?_⟩ | refine ⟨fun _ h=>bW h,?_⟩ | refine ⟨fun _ h=>ay h,?_⟩ | refine ⟨fun h=>⟨h,fun h2=>aF h h2⟩,?_⟩ | refine ⟨fun h=>⟨h,fun h2=>aA h h2⟩,?_⟩
 obtain ⟨nm,RD⟩:=MW eJ coin
 refine ⟨_,RD,?_⟩
 repeat first | refine ⟨id,?_⟩ | refine ⟨fun _ h=>bW h,?_⟩ | refine ⟨fun _ h=>ay h,?_⟩ | refine ⟨fun h=>⟨h,fun h2=>aF h h2⟩,?_⟩ | refine ⟨fun h=>⟨h,fun h2=>aA h h2⟩,?_⟩
 refine ⟨fun hc=>?_,fun _=>?_⟩
 ·have:MV coin=true:=hc
  rw [h] at this; cases this
 repeat first | refine ⟨id,?_⟩ | refine ⟨fun _ h=>bW h,?_⟩ | refine ⟨fun _ h=>ay h,?_⟩ | refine ⟨fun h=>⟨h,fun h2=>aF h h2⟩,?_⟩ | refine ⟨fun h=>⟨h,fun h2=>aA h h2⟩,?_⟩
 refine ⟨fun hc=>?_,fun _=>?_⟩
 ·have:Gv ab aE=true:=hc
  rw [h2] at this; cases this
 exact ⟨_,_,⟨rfl,rfl⟩,by kernel_rfl,⟨rfl,rf,tv⟩,⟨rf,rf,rf,rf,oQ _,rf,tv⟩,tv⟩
def Zg (coin ab aE:Int):RV:=⟨coin,ab,aE,[],0⟩
theorem GC (coin ab aE:Int) (h:MV coin=false) (h2:Gv ab aE=false):aO Tryz.prog 12 [wg (Bn eJ),.dv (I coin),.dv (I ab),.dv (I aE)] 0 [] 2 [.own 1 0 0 [],.dv (I 0)] [(1,.tree 0 0 (.cB (QF (Zg coin ab aE))))] :=
 Eb (GB coin ab aE h h2)
end Go.Proofs.YtpbdohkbiklflaaGreatDoor
namespace Go.Proofs.YtpbdohkbiklflaaGreatDoor
open Go.TM
def jb (n m:Int):Int:=(if n<0 then -(n+1) else n).tmod m
theorem o0 (n m:Int) (hm:1≤m):0≤jb n m∧jb n m<m:=by
 unfold jb
 refine ⟨Int.tmod_nonneg _ (by split <;> omega),Int.tmod_lt_of_pos _ (by omega)⟩
def bD (l:List Int) (i m:Int):Int:=if i<0 ∨ (l.length:Int)≤i then 0 else jb (l.getD i.toNat 0) m
variable [cG]
theorem og (n m:Int) (hn:yw n) (hm:1≤m) (Zh:m≤1000000000000):cr Tryz.prog 10 [I n,I m] [I (jb n m)]:=by
 refine bq aD mixed (af _) (ai _) Tryz.func10 rfl (by kernel_rfl) rfl ?_
 unfold yw at hn
 refine ⟨fun h=>?_,fun h=>?_⟩
 ·have h':n<0:=of_decide_eq_true h
  refine ⟨fun _=>⟨by omega,by omega⟩,fun _=>⟨by omega,by omega⟩,fun _=>by omega,?_⟩
  exact ⟨au (by rw [jb,if_pos h',Int.zero_sub]),tv⟩
 ·have h':¬ n<0:=of_decide_eq_false h
  refine ⟨fun _=>by omega,?_⟩
  exact ⟨au (by rw [jb,if_neg h']),tv⟩
theorem cK (l:List Int) (i m:Int) (hl:∀x∈l,yw x) (hm:1≤m) (Zh:m≤1000000000000):cr Tryz.prog 42 [eE l,I i,I m] [I (bD l i m)]:=by
 refine bq aD mixed (af _) (ai _) Tryz.func42 rfl (by kernel_rfl) rfl ?_
 repeat first | refine ⟨id,?_⟩ | refine ⟨fun _ h=>bW h,?_⟩ | refine ⟨fun _ h=>ay h,?_⟩ | refine ⟨fun h=>⟨h,fun h2=>aF h h2⟩,?_⟩ | refine ⟨fun h=>⟨h,fun h2=>aA h h2⟩,?_⟩
 refine ⟨fun h=>?_,fun h=>?_⟩
 ·have h':i<0 ∨ (l.length:Int)≤i:=by
   rw [List.length_map] at h
   simpa using h
  exact ⟨au (by rw [bD,if_pos h']),tv⟩
 ·have h':¬ (i<0 ∨ (l.length:Int)≤i):=by
   rw [List.length_map] at h
   simp at h; omega
  have hg:l[i.toNat]?=some (l.getD i.toNat 0):=by rw [List.getD_eq_getElem?_getD,List.getElem?_eq_getElem (show i.toNat<l.length by omega)]; rfl
  refine ⟨I (l.getD i.toNat 0),fun _=>⟨by omega,by rw [List.getElem?_map,hg]; rfl⟩,?_⟩
  refine .inl ⟨_,fun _=>(og _ m (hl _ (List.mem_of_getElem? hg)) hm Zh).ok,?_⟩
  exact ⟨au (by rw [bD,if_neg h']),tv⟩
end Go.Proofs.YtpbdohkbiklflaaGreatDoor
namespace Go.Proofs.YtpbdohkbiklflaaGreatDoor
open Go.TM
variable [cG]
set_option maxRecDepth 100000
theorem c8 (l:List Int) (i m:Int) (hm:1≤m):0≤bD l i m∧bD l i m<m:=by
 unfold bD; split
 ·omega
 ·exact o0 _ m hm
def GD:List Int:=[1,2,3,4,1048577,9]
theorem Ec (k:Int) (hk:0≤k):GD[(k.tmod 6).toNat]?=some (ao k):=by
 have h1:=Int.tmod_nonneg 6 hk
 have h2:=Int.tmod_lt_of_pos k (show (0:Int)<6 by omega)
 unfold ao
 rw [List.getD_eq_getElem?_getD]
 show GD[(k.tmod 6).toNat]?=some (GD[(k.tmod 6).toNat]?.getD 0)
 have h3:(k.tmod 6).toNat<GD.length:=by show _<6; omega
 rw [List.getElem?_eq_getElem h3]; rfl
theorem Iz (k:Int) (hk:0≤k):1≤ao k∧ao k≤1048577:=by
 have:=List.mem_of_getElem? (Ec k hk)
 simp only [GD,List.mem_cons,List.not_mem_nil,or_false] at this
 omega
theorem bE (k:Int) (hk:0≤k):cr Tryz.prog 43 [I k] [I (ao k)]:=by
 refine bq aD mixed (af _) (ai _) Tryz.func43 rfl (by kernel_rfl) rfl ?_
 refine .inl ⟨GD.map I,rfl,⟨rf,rf,rf,rf,rf,rf,tv⟩,(by simp [GD]; exact ⟨rfl,rfl,rfl,rfl,rfl,rfl⟩),?_⟩
 have h1:=Int.tmod_nonneg 6 hk
 refine ⟨fun _ h=>by omega,?_⟩
 refine ⟨I (ao k),fun _=>⟨h1,by rw [List.getElem?_map,Ec k hk]; rfl⟩,?_⟩
 exact ⟨rf,tv⟩
def GF (f:Mv→Mv):List Mv→List Mv
 | []=>[]
 | m::r=>f m::r
def dW (k aT:Int):Int × List Mv :=
 let a:=ao k
 let b:=ao (k.tdiv 6+1+k.tmod 6)
 let n:=1+(k.tdiv 36).tmod 7
 let item:=(k.tdiv 252).tmod 4
 if aT.tmod 6=0 ∨ aT.tmod 6=1 then (0,[⟨0,a,item,3 * n⟩,⟨0,b,1,5 * n⟩]) else
 if aT.tmod 6=2 ∨ aT.tmod 6=3 then
  let b1:=if a=b then a+1 else b
  let x:Mv:=⟨a,b1,item.tdiv 2 * 2,n⟩
  let y:Mv:=⟨b1,a,1,1+(aT.tdiv 6).tmod 9⟩
  (2,if (aT.tdiv 54).tmod 2=1 then [y,x] else [x,y]) else
 if aT.tmod 6=4 then ((aT.tdiv 6).tmod 11,[⟨a,0,item,n⟩]) else
 (2,[⟨0,a,item,n⟩,⟨a,3 * a,item,n⟩,⟨3 * a,a,item,1⟩])
def xJ (bad:Bool) (aT tick:Int) (s:St):St :=
 if bad=true∧(aT.tdiv 60).tmod 9=0 then { s with mv:=GF (fun m=>{ m with n:=(aT.tdiv 540).tmod 3 - 1 }) s.mv } else
 if bad=true∧(aT.tdiv 60).tmod 9=1 then { s with mv:=GF (fun m=>{ m with it:=4 - (aT.tdiv 540).tmod 2 * 5 }) s.mv } else
 if bad=true∧(aT.tdiv 60).tmod 9=2 then { s with tick:=tick - 1 - (aT.tdiv 540).tmod 3 } else
 if bad=true∧(aT.tdiv 60).tmod 9=3 then { s with mv:=GF (fun m=>{ m with t:=m.f - (aT.tdiv 540).tmod 2 * 1073741825 }) s.mv } else s
def kA (k aT tick:Int) (bad:Bool):St:=xJ bad aT tick ⟨0,(dW k aT).1,ao k,tick+(k.tdiv 1008).tmod 4,-1,0,(dW k aT).2⟩
def eg (l:List Int) (at' tick:Int) (bad:Bool):St:=kA (bD l at' 1000000) (bD l (at'+1) 1000000) tick bad
theorem qt {bad:Bool} {q z:Int} (h:(bif bad then q == z else false)=true):bad=true∧q=z:=by
 obtain ⟨h1,h2⟩:=tX h; exact ⟨h1,by simpa using h2⟩
theorem qf {bad:Bool} {q z:Int} (h:(bif bad then q == z else false)=false):¬ (bad=true∧q=z):=fun h9=>zu h ⟨h9.1,by simpa using h9.2⟩
theorem mN {bad:Bool} {aT tick:Int} {s:St} (h:bad=true∧(aT.tdiv 60).tmod 9=0):xJ bad aT tick s={ s with mv:=GF (fun m=>{ m with n:=(aT.tdiv 540).tmod 3 - 1 }) s.mv }:=if_pos h
theorem mO {bad:Bool} {aT tick:Int} {s:St} (h:bad=true∧(aT.tdiv 60).tmod 9=1):xJ bad aT tick s={ s with mv:=GF (fun m=>{ m with it:=4 - (aT.tdiv 540).tmod 2 * 5 }) s.mv }:=by
 unfold xJ; rw [if_neg (fun h9=>absurd (h9.2.symm.trans h.2) (by decide)),if_pos h]
theorem mP {bad:Bool} {aT tick:Int} {s:St} (h:bad=true∧(aT.tdiv 60).tmod 9=2):xJ bad aT tick s={ s with tick:=tick - 1 - (aT.tdiv 540).tmod 3 }:=by
 unfold xJ; rw [if_neg (fun h9=>absurd (h9.2.symm.trans h.2) (by decide)),if_neg (fun h9=>absurd (h9.2.symm.trans h.2) (by decide)),if_pos h]
theorem mQ {bad:Bool} {aT tick:Int} {s:St} (h:bad=true∧(aT.tdiv 60).tmod 9=3):xJ bad aT tick s={ s with mv:=GF (fun m=>{ m with t:=m.f - (aT.tdiv 540).tmod 2 * 1073741825 }) s.mv }:=by
 unfold xJ; rw [if_neg (fun h9=>absurd (h9.2.symm.trans h.2) (by decide)),if_neg (fun h9=>absurd (h9.2.symm.trans h.2) (by decide)),if_neg (fun h9=>absurd (h9.2.symm.trans h.2) (by decide)),if_pos h]
theorem mR {bad:Bool} {aT tick:Int} {s:St} (h0:¬ (bad=true∧(aT.tdiv 60).tmod 9=0)) (h1:¬ (bad=true∧(aT.tdiv 60).tmod 9=1)) (h2:¬ (bad=true∧(aT.tdiv 60).tmod 9=2)) (h3:¬ (bad=true∧(aT.tdiv 60).tmod 9=3)):xJ bad aT tick s=s:=by
 unfold xJ; rw [if_neg h0,if_neg h1,if_neg h2,if_neg h3]
theorem th {x z:Int} (h:(x == z)=true):x=z:=by simpa using h
theorem qF {x z:Int} (h:(x == z)=false):¬ x=z:=by simpa using h
theorem uf {k aT tick:Int} (k0:0≤k) (k1:k<1000000) (w0:0≤aT) (w1:aT<1000000) (ht:0≤tick∧tick≤1099511627776):0≤k.tdiv 6∧0≤k.tdiv 36∧0≤k.tdiv 252∧0≤k.tdiv 1008∧k.tdiv 6≤k∧k.tdiv 36≤k∧k.tdiv 252≤k∧k.tdiv 1008≤k∧0≤k.tmod 6∧k.tmod 6<6∧0≤(k.tdiv 36).tmod 7∧(k.tdiv 36).tmod 7<7∧0≤(k.tdiv 252).tmod 4∧(k.tdiv 252).tmod 4<4∧0≤(k.tdiv 1008).tmod 4∧(k.tdiv 1008).tmod 4<4∧0≤aT.tdiv 6∧0≤aT.tdiv 54∧0≤aT.tdiv 60∧0≤aT.tdiv 540∧aT.tdiv 6≤aT∧aT.tdiv 54≤aT∧aT.tdiv 60≤aT∧aT.tdiv 540≤aT∧0≤(aT.tdiv 6).tmod 9∧(aT.tdiv 6).tmod 9<9∧0≤(aT.tdiv 6).tmod 11∧(aT.tdiv 6).tmod 11<11∧0≤(aT.tdiv 540).tmod 3∧(aT.tdiv 540).tmod 3<3∧0≤(aT.tdiv 540).tmod 2∧(aT.tdiv 540).tmod 2<2∧0≤((k.tdiv 252).tmod 4).tdiv 2∧((k.tdiv 252).tmod 4).tdiv 2≤(k.tdiv 252).tmod 4∧(1≤ao k∧ao k≤1048577)∧(1≤ao (k.tdiv 6+1+k.tmod 6)∧ao (k.tdiv 6+1+k.tmod 6)≤1048577)∧((60:Int)=0→False)∧((540:Int)=0→False)∧((54:Int)=0→False)∧((9:Int)=0→False)∧((6:Int)=0→False)∧((11:Int)=0→False)∧((3:Int)=0→False)∧((2:Int)=0→False)∧(-9223372036854775808≤aT.tdiv 60∧aT.tdiv 60≤9223372036854775807)∧(-9223372036854775808≤aT.tdiv 540∧aT.tdiv 540≤9223372036854775807)∧(-9223372036854775808≤aT.tdiv 54∧aT.tdiv 54≤9223372036854775807)∧(-9223372036854775808≤aT.tdiv 6∧aT.tdiv 6≤9223372036854775807)∧(-9223372036854775808≤(aT.tdiv 540).tmod 3 - 1∧(aT.tdiv 540).tmod 3 - 1≤9223372036854775807)∧(-9223372036854775808≤(aT.tdiv 540).tmod 2 * 5∧(aT.tdiv 540).tmod 2 * 5≤9223372036854775807)∧(-9223372036854775808≤4 - (aT.tdiv 540).tmod 2 * 5∧4 - (aT.tdiv 540).tmod 2 * 5≤9223372036854775807)∧(-9223372036854775808≤tick - 1∧tick - 1≤9223372036854775807)∧(-9223372036854775808≤tick - 1 - (aT.tdiv 540).tmod 3∧tick - 1 - (aT.tdiv 540).tmod 3≤9223372036854775807)∧(-9223372036854775808≤(aT.tdiv 540).tmod 2 * 1073741825∧(aT.tdiv 540).tmod 2 * 1073741825≤9223372036854775807)∧(-9223372036854775808≤3 * (1+(k.tdiv 36).tmod 7)∧3 * (1+(k.tdiv 36).tmod 7)≤9223372036854775807)∧(-9223372036854775808≤5 * (1+(k.tdiv 36).tmod 7)∧5 * (1+(k.tdiv 36).tmod 7)≤9223372036854775807)∧(-9223372036854775808≤ao k+1∧ao k+1≤9223372036854775807)∧(-9223372036854775808≤((k.tdiv 252).tmod 4).tdiv 2∧((k.tdiv 252).tmod 4).tdiv 2≤9223372036854775807)∧(-9223372036854775808≤((k.tdiv 252).tmod 4).tdiv 2 * 2∧((k.tdiv 252).tmod 4).tdiv 2 * 2≤9223372036854775807)∧(-9223372036854775808≤1+(aT.tdiv 6).tmod 9∧1+(aT.tdiv 6).tmod 9≤9223372036854775807)∧(-9223372036854775808≤3 * ao k∧3 * ao k≤9223372036854775807):=by
 have d6:=Int.tdiv_nonneg k0 (show (0:Int)≤6 by omega)
 have d36:=Int.tdiv_nonneg k0 (show (0:Int)≤36 by omega)
 have m9:=Int.tdiv_nonneg k0 (show (0:Int)≤252 by omega)
 have g9:=Int.tdiv_nonneg k0 (show (0:Int)≤1008 by omega)
 have e6:=Int.tdiv_le_self (a:=k) 6 k0
 have Ed:=Int.tdiv_le_self (a:=k) 36 k0
 have oh:=Int.tdiv_le_self (a:=k) 252 k0
 have iP:=Int.tdiv_le_self (a:=k) 1008 k0
 have m6:=Int.tmod_nonneg 6 k0
 have Pt:=Int.tmod_lt_of_pos k (show (0:Int)<6 by omega)
 have m7:=Int.tmod_nonneg 7 d36
 have Pu:=Int.tmod_lt_of_pos (k.tdiv 36) (show (0:Int)<7 by omega)
 have m4:=Int.tmod_nonneg 4 m9
 have Pv:=Int.tmod_lt_of_pos (k.tdiv 252) (show (0:Int)<4 by omega)
 have n4:=Int.tmod_nonneg 4 g9
 have Pw:=Int.tmod_lt_of_pos (k.tdiv 1008) (show (0:Int)<4 by omega)
 have f6:=Int.tdiv_nonneg w0 (show (0:Int)≤6 by omega)
 have f54:=Int.tdiv_nonneg w0 (show (0:Int)≤54 by omega)
 have f60:=Int.tdiv_nonneg w0 (show (0:Int)≤60 by omega)
 have mA:=Int.tdiv_nonneg w0 (show (0:Int)≤540 by omega)
 have g6:=Int.tdiv_le_self (a:=aT) 6 w0
 have Ee:=Int.tdiv_le_self (a:=aT) 54 w0
 have Ef:=Int.tdiv_le_self (a:=aT) 60 w0
 have oi:=Int.tdiv_le_self (a:=aT) 540 w0
 have h9:=Int.tmod_nonneg 9 f6
 have Px:=Int.tmod_lt_of_pos (aT.tdiv 6) (show (0:Int)<9 by omega)
 have Dn:=Int.tmod_nonneg 11 f6
 have BS:=Int.tmod_lt_of_pos (aT.tdiv 6) (show (0:Int)<11 by omega)
 have h3:=Int.tmod_nonneg 3 mA
 have Cn:=Int.tmod_lt_of_pos (aT.tdiv 540) (show (0:Int)<3 by omega)
 have h2:=Int.tmod_nonneg 2 mA
 have B9:=Int.tmod_lt_of_pos (aT.tdiv 540) (show (0:Int)<2 by omega)
 have i2:=Int.tdiv_nonneg m4 (show (0:Int)≤2 by omega)
 have Py:=Int.tdiv_le_self (a:=(k.tdiv 252).tmod 4) 2 m4
 have ba:=Iz k k0
 have bb:=Iz (k.tdiv 6+1+k.tmod 6) (by omega)
 have cw:(60:Int)=0→False:=by decide
 have cR:(540:Int)=0→False:=by decide
 have Pz:(54:Int)=0→False:=by decide
 have z9:(9:Int)=0→False:=by decide
 have z6:(6:Int)=0→False:=by decide
 have PA:(11:Int)=0→False:=by decide
 have z3:(3:Int)=0→False:=by decide
 have z2:(2:Int)=0→False:=by decide
 have cx:-9223372036854775808≤aT.tdiv 60∧aT.tdiv 60≤9223372036854775807:=by omega
 have cS:-9223372036854775808≤aT.tdiv 540∧aT.tdiv 540≤9223372036854775807:=by omega
 have PB:-9223372036854775808≤aT.tdiv 54∧aT.tdiv 54≤9223372036854775807:=by omega
 have o6:-9223372036854775808≤aT.tdiv 6∧aT.tdiv 6≤9223372036854775807:=by omega
 have s0:-9223372036854775808≤(aT.tdiv 540).tmod 3 - 1∧(aT.tdiv 540).tmod 3 - 1≤9223372036854775807:=by omega
 have yE:-9223372036854775808≤(aT.tdiv 540).tmod 2 * 5∧(aT.tdiv 540).tmod 2 * 5≤9223372036854775807:=by omega
 have yF:-9223372036854775808≤4 - (aT.tdiv 540).tmod 2 * 5∧4 - (aT.tdiv 540).tmod 2 * 5≤9223372036854775807:=by omega
 have yG:-9223372036854775808≤tick - 1∧tick - 1≤9223372036854775807:=by omega
 have yH:-9223372036854775808≤tick - 1 - (aT.tdiv 540).tmod 3∧tick - 1 - (aT.tdiv 540).tmod 3≤9223372036854775807:=by omega
 have yI:-9223372036854775808≤(aT.tdiv 540).tmod 2 * 1073741825∧(aT.tdiv 540).tmod 2 * 1073741825≤9223372036854775807:=by omega
 have b3:-9223372036854775808≤3 * (1+(k.tdiv 36).tmod 7)∧3 * (1+(k.tdiv 36).tmod 7)≤9223372036854775807:=by omega
 have b5:-9223372036854775808≤5 * (1+(k.tdiv 36).tmod 7)∧5 * (1+(k.tdiv 36).tmod 7)≤9223372036854775807:=by omega
 have PC:-9223372036854775808≤ao k+1∧ao k+1≤9223372036854775807:=by omega
 have PD:-9223372036854775808≤((k.tdiv 252).tmod 4).tdiv 2∧((k.tdiv 252).tmod 4).tdiv 2≤9223372036854775807:=by omega
 have PE:-9223372036854775808≤((k.tdiv 252).tmod 4).tdiv 2 * 2∧((k.tdiv 252).tmod 4).tdiv 2 * 2≤9223372036854775807:=by omega
 have b9:-9223372036854775808≤1+(aT.tdiv 6).tmod 9∧1+(aT.tdiv 6).tmod 9≤9223372036854775807:=by omega
 have PF:-9223372036854775808≤3 * ao k∧3 * ao k≤9223372036854775807:=by omega
 exact ⟨d6,d36,m9,g9,e6,Ed,oh,iP,m6,Pt,m7,Pu,m4,Pv,n4,Pw,f6,f54,f60,mA,g6,Ee,Ef,oi,h9,Px,Dn,BS,h3,Cn,h2,B9,i2,Py,ba,bb,cw,cR,Pz,z9,z6,PA,z3,z2,cx,cS,PB,o6,s0,yE,yF,yG,yH,yI,b3,b5,PC,PD,PE,b9,PF⟩
end Go.Proofs.YtpbdohkbiklflaaGreatDoor
namespace Go.Proofs.YtpbdohkbiklflaaGreatDoor
open Go.TM
variable [cG]
set_option maxRecDepth 100000
set_option maxHeartbeats 4000000 in
theorem PG (l:List Int) (hl:∀x∈l,yw x) (at' tick:Int) (bad:Bool) (ha:0≤at'∧at'≤1000000) (ht:0≤tick∧tick≤1099511627776) (hc:(bD l (at'+1) 1000000).tmod 6=0):cr Tryz.prog 19 [eE l,I at',I tick,B bad] [fT (eg l at' tick bad)]:=by
 refine bq aD mixed (af _) (ai _) Tryz.func19 rfl (by kernel_rfl) rfl ?_
 have De:=cK l at' 1000000 hl (by omega) (by omega)
 have qz:=cK l (at'+1) 1000000 hl (by omega) (by omega)
 obtain ⟨k0,k1⟩:=c8 l at' 1000000 (by omega)
 obtain ⟨w0,w1⟩:=c8 l (at'+1) 1000000 (by omega)
 refine .inl ⟨_,fun _=>De.ok,?_⟩
 unfold eg
 generalize bD l at' 1000000=k at *
 generalize bD l (at'+1) 1000000=aT at *
 obtain ⟨d6,d36,m9,g9,e6,Ed,oh,iP,m6,Pt,m7,Pu,m4,Pv,n4,Pw,f6,f54,f60,mA,g6,Ee,Ef,oi,h9,Px,Dn,BS,h3,Cn,h2,B9,i2,Py,ba,bb,cw,cR,Pz,z9,z6,PA,z3,z2,cx,cS,PB,o6,s0,yE,yF,yG,yH,yI,b3,b5,PC,PD,PE,b9,PF⟩:=uf k0 k1 w0 w1 ht
 refine .inl ⟨_,fun _=>(bE k k0).ok,?_⟩
 repeat first | refine ⟨fun _=>⟨by omega,by omega⟩,?_⟩ | refine ⟨fun _ h=>by omega,?_⟩
 refine .inl ⟨_,fun _=>(bE (k.tdiv 6+1+k.tmod 6) (by omega)).ok,?_⟩
 repeat first | refine ⟨fun _=>⟨by omega,by omega⟩,?_⟩ | refine ⟨fun _ h=>by omega,?_⟩
 refine .inl ⟨_,fun _=>qz.ok,?_⟩
 repeat first | refine ⟨fun _=>⟨by omega,by omega⟩,?_⟩ | refine ⟨fun _ h=>by omega,?_⟩
 clear e6 Ed oh iP g6 Ee Ef oi d6 d36 m9 g9 f6 f54 f60 mA
 refine And.intro ?_ (fun h=>absurd hc (qF h))
 intro c0
 have c0:=th c0
 refine And.intro ?_ (fun h=>absurd c0 (qF h))
 intro _
 have hB:dW k aT=(0,[⟨0,ao k,(k.tdiv 252).tmod 4,3 * (1+(k.tdiv 36).tmod 7)⟩,⟨0,ao (k.tdiv 6+1+k.tmod 6),1,5 * (1+(k.tdiv 36).tmod 7)⟩]):=by unfold dW; simp only; rw [if_pos (by omega)]
 repeat refine ⟨fun _=>by assumption,?_⟩
 refine Or.inr ?_
 refine Or.inl ?_
 refine ⟨[cM ⟨0,ao k,(k.tdiv 252).tmod 4,3 * (1+(k.tdiv 36).tmod 7)⟩,cM ⟨0,ao (k.tdiv 6+1+k.tmod 6),1,5 * (1+(k.tdiv 36).tmod 7)⟩],rfl,⟨rf,rf,rf,rf,rf,rf,rf,rf,rf,rf,tv⟩,(by simp; exact ⟨rfl,rfl⟩),?_⟩
 unfold kA; rw [hB]
 refine ⟨id,fun _=>cw,fun _=>cx,id,fun _=>z9,id,fun _ h=>ay h,?_⟩
 refine And.intro ?_ ?_
 ·intro iZ
  have hq:=qt iZ
  refine ⟨fun _=>cR,fun _=>cS,fun _=>z3,fun _=>s0,?_⟩
  refine ⟨fun _=>⟨Int.le_refl 0,by simp⟩,[I ((aT.tdiv 540).tmod 3 - 1)],⟨rf,tv⟩,cM ⟨0,ao k,(k.tdiv 252).tmod 4,3 * (1+(k.tdiv 36).tmod 7)⟩,rfl,?_⟩
  refine ⟨id,fun _=>cw,fun _=>cx,id,fun _=>z9,id,fun _ h=>ay h,?_⟩
  refine And.intro ?_ ?_
  ·intro h; exact absurd ((qt h).2.symm.trans hq.2) (by decide)
  intro _
  refine ⟨id,fun _=>cw,fun _=>cx,id,fun _=>z9,id,fun _ h=>ay h,?_⟩
  refine And.intro ?_ ?_
  ·intro h; exact absurd ((qt h).2.symm.trans hq.2) (by decide)
  intro _
  refine ⟨id,fun _=>cw,fun _=>cx,id,fun _=>z9,id,fun _ h=>ay h,?_⟩
  refine And.intro ?_ ?_
  ·intro h; exact absurd ((qt h).2.symm.trans hq.2) (by decide)
  intro _
  rw [mN hq]
  exact ⟨rf,tv⟩
 intro iZ
 refine ⟨id,fun _=>cw,fun _=>cx,id,fun _=>z9,id,fun _ h=>ay h,?_⟩
 refine And.intro ?_ ?_
 ·intro je
  have hq:=qt je
  refine ⟨fun _=>cR,fun _=>cS,fun _=>z2,fun _=>yE,fun _=>yF,?_⟩
  refine ⟨fun _=>⟨Int.le_refl 0,by simp⟩,[I (4 - (aT.tdiv 540).tmod 2 * 5)],⟨rf,tv⟩,cM ⟨0,ao k,(k.tdiv 252).tmod 4,3 * (1+(k.tdiv 36).tmod 7)⟩,rfl,?_⟩
  refine ⟨id,fun _=>cw,fun _=>cx,id,fun _=>z9,id,fun _ h=>ay h,?_⟩
  refine And.intro ?_ ?_
  ·intro h; exact absurd ((qt h).2.symm.trans hq.2) (by decide)
  intro _
  refine ⟨id,fun _=>cw,fun _=>cx,id,fun _=>z9,id,fun _ h=>ay h,?_⟩
  refine And.intro ?_ ?_
  ·intro h; exact absurd ((qt h).2.symm.trans hq.2) (by decide)
  intro _
  rw [mO hq]
  exact ⟨rf,tv⟩
 intro je
 refine ⟨id,fun _=>cw,fun _=>cx,id,fun _=>z9,id,fun _ h=>ay h,?_⟩
 refine And.intro ?_ ?_
 ·intro gR
  have hq:=qt gR
  refine ⟨fun _=>yG,fun _=>cR,fun _=>cS,fun _=>z3,fun _=>yH,?_⟩
  refine ⟨id,fun _=>cw,fun _=>cx,id,fun _=>z9,id,fun _ h=>ay h,?_⟩
  refine And.intro ?_ ?_
  ·intro h; exact absurd ((qt h).2.symm.trans hq.2) (by decide)
  intro _
  rw [mP hq]
  exact ⟨rf,tv⟩
 intro gR
 refine ⟨id,fun _=>cw,fun _=>cx,id,fun _=>z9,id,fun _ h=>ay h,?_⟩
 refine And.intro ?_ ?_
 ·intro ke
  have hq:=qt ke
  skip
  refine ⟨fun _=>⟨Int.le_refl 0,by simp⟩,cM ⟨0,ao k,(k.tdiv 252).tmod 4,3 * (1+(k.tdiv 36).tmod 7)⟩,fun _=>rfl,?_⟩
  refine ⟨fun _=>cR,fun _=>cS,fun _=>z2,fun _=>yI,fun _=>⟨by show _≤0 - (aT.tdiv 540).tmod 2 * 1073741825; omega,by show 0 - (aT.tdiv 540).tmod 2 * 1073741825≤_; omega⟩,?_⟩
  refine ⟨fun _=>⟨Int.le_refl 0,by simp⟩,[I (0 - (aT.tdiv 540).tmod 2 * 1073741825)],⟨rf,tv⟩,cM ⟨0,ao k,(k.tdiv 252).tmod 4,3 * (1+(k.tdiv 36).tmod 7)⟩,rfl,?_⟩
  refine ⟨by kernel_rfl,?_⟩
  rw [mQ hq]
  exact ⟨rf,tv⟩
 intro ke
 rw [mR (qf iZ) (qf je) (qf gR) (qf ke)]
 exact ⟨rf,tv⟩
set_option maxHeartbeats 4000000 in
theorem PH (l:List Int) (hl:∀x∈l,yw x) (at' tick:Int) (bad:Bool) (ha:0≤at'∧at'≤1000000) (ht:0≤tick∧tick≤1099511627776) (hc:(bD l (at'+1) 1000000).tmod 6=1):cr Tryz.prog 19 [eE l,I at',I tick,B bad] [fT (eg l at' tick bad)]:=by
 refine bq aD mixed (af _) (ai _) Tryz.func19 rfl (by kernel_rfl) rfl ?_
 have De:=cK l at' 1000000 hl (by omega) (by omega)
 have qz:=cK l (at'+1) 1000000 hl (by omega) (by omega)
 obtain ⟨k0,k1⟩:=c8 l at' 1000000 (by omega)
 obtain ⟨w0,w1⟩:=c8 l (at'+1) 1000000 (by omega)
 refine .inl ⟨_,fun _=>De.ok,?_⟩
 unfold eg
 generalize bD l at' 1000000=k at *
 generalize bD l (at'+1) 1000000=aT at *
 obtain ⟨d6,d36,m9,g9,e6,Ed,oh,iP,m6,Pt,m7,Pu,m4,Pv,n4,Pw,f6,f54,f60,mA,g6,Ee,Ef,oi,h9,Px,Dn,BS,h3,Cn,h2,B9,i2,Py,ba,bb,cw,cR,Pz,z9,z6,PA,z3,z2,cx,cS,PB,o6,s0,yE,yF,yG,yH,yI,b3,b5,PC,PD,PE,b9,PF⟩:=uf k0 k1 w0 w1 ht
 refine .inl ⟨_,fun _=>(bE k k0).ok,?_⟩
 repeat first | refine ⟨fun _=>⟨by omega,by omega⟩,?_⟩ | refine ⟨fun _ h=>by omega,?_⟩
 refine .inl ⟨_,fun _=>(bE (k.tdiv 6+1+k.tmod 6) (by omega)).ok,?_⟩
 repeat first | refine ⟨fun _=>⟨by omega,by omega⟩,?_⟩ | refine ⟨fun _ h=>by omega,?_⟩
 refine .inl ⟨_,fun _=>qz.ok,?_⟩
 repeat first | refine ⟨fun _=>⟨by omega,by omega⟩,?_⟩ | refine ⟨fun _ h=>by omega,?_⟩
 clear e6 Ed oh iP g6 Ee Ef oi d6 d36 m9 g9 f6 f54 f60 mA
 refine And.intro (fun h=>absurd ((th h).symm.trans hc) (by decide)) ?_
 intro c0
 have c0:=qF c0
 refine And.intro ?_ (fun h=>absurd hc (qF h))
 intro c1
 have c1:=th c1
 have hB:dW k aT=(0,[⟨0,ao k,(k.tdiv 252).tmod 4,3 * (1+(k.tdiv 36).tmod 7)⟩,⟨0,ao (k.tdiv 6+1+k.tmod 6),1,5 * (1+(k.tdiv 36).tmod 7)⟩]):=by unfold dW; simp only; rw [if_pos (by omega)]
 repeat refine ⟨fun _=>by assumption,?_⟩
 refine Or.inr ?_
 refine Or.inl ?_
 refine ⟨[cM ⟨0,ao k,(k.tdiv 252).tmod 4,3 * (1+(k.tdiv 36).tmod 7)⟩,cM ⟨0,ao (k.tdiv 6+1+k.tmod 6),1,5 * (1+(k.tdiv 36).tmod 7)⟩],rfl,⟨rf,rf,rf,rf,rf,rf,rf,rf,rf,rf,tv⟩,(by simp; exact ⟨rfl,rfl⟩),?_⟩
 unfold kA; rw [hB]
 refine ⟨id,fun _=>cw,fun _=>cx,id,fun _=>z9,id,fun _ h=>ay h,?_⟩
 refine And.intro ?_ ?_
 ·intro iZ
  have hq:=qt iZ
  refine ⟨fun _=>cR,fun _=>cS,fun _=>z3,fun _=>s0,?_⟩
  refine ⟨fun _=>⟨Int.le_refl 0,by simp⟩,[I ((aT.tdiv 540).tmod 3 - 1)],⟨rf,tv⟩,cM ⟨0,ao k,(k.tdiv 252).tmod 4,3 * (1+(k.tdiv 36).tmod 7)⟩,rfl,?_⟩
  refine ⟨id,fun _=>cw,fun _=>cx,id,fun _=>z9,id,fun _ h=>ay h,?_⟩
  refine And.intro ?_ ?_
  ·intro h; exact absurd ((qt h).2.symm.trans hq.2) (by decide)
  intro _
  refine ⟨id,fun _=>cw,fun _=>cx,id,fun _=>z9,id,fun _ h=>ay h,?_⟩
  refine And.intro ?_ ?_
  ·intro h; exact absurd ((qt h).2.symm.trans hq.2) (by decide)
  intro _
  refine ⟨id,fun _=>cw,fun _=>cx,id,fun _=>z9,id,fun _ h=>ay h,?_⟩
  refine And.intro ?_ ?_
  ·intro h; exact absurd ((qt h).2.symm.trans hq.2) (by decide)
  intro _
  rw [mN hq]
  exact ⟨rf,tv⟩
 intro iZ
 refine ⟨id,fun _=>cw,fun _=>cx,id,fun _=>z9,id,fun _ h=>ay h,?_⟩
 refine And.intro ?_ ?_
 ·intro je
  have hq:=qt je
  refine ⟨fun _=>cR,fun _=>cS,fun _=>z2,fun _=>yE,fun _=>yF,?_⟩
  refine ⟨fun _=>⟨Int.le_refl 0,by simp⟩,[I (4 - (aT.tdiv 540).tmod 2 * 5)],⟨rf,tv⟩,cM ⟨0,ao k,(k.tdiv 252).tmod 4,3 * (1+(k.tdiv 36).tmod 7)⟩,rfl,?_⟩
  refine ⟨id,fun _=>cw,fun _=>cx,id,fun _=>z9,id,fun _ h=>ay h,?_⟩
  refine And.intro ?_ ?_
  ·intro h; exact absurd ((qt h).2.symm.trans hq.2) (by decide)
  intro _
  refine ⟨id,fun _=>cw,fun _=>cx,id,fun _=>z9,id,fun _ h=>ay h,?_⟩
  refine And.intro ?_ ?_
  ·intro h; exact absurd ((qt h).2.symm.trans hq.2) (by decide)
  intro _
  rw [mO hq]
  exact ⟨rf,tv⟩
 intro je
 refine ⟨id,fun _=>cw,fun _=>cx,id,fun _=>z9,id,fun _ h=>ay h,?_⟩
 refine And.intro ?_ ?_
 ·intro gR
  have hq:=qt gR
  refine ⟨fun _=>yG,fun _=>cR,fun _=>cS,fun _=>z3,fun _=>yH,?_⟩
  refine ⟨id,fun _=>cw,fun _=>cx,id,fun _=>z9,id,fun _ h=>ay h,?_⟩
  refine And.intro ?_ ?_
  ·intro h; exact absurd ((qt h).2.symm.trans hq.2) (by decide)
  intro _
  rw [mP hq]
  exact ⟨rf,tv⟩
 intro gR
 refine ⟨id,fun _=>cw,fun _=>cx,id,fun _=>z9,id,fun _ h=>ay h,?_⟩
 refine And.intro ?_ ?_
 ·intro ke
  have hq:=qt ke
  skip
  refine ⟨fun _=>⟨Int.le_refl 0,by simp⟩,cM ⟨0,ao k,(k.tdiv 252).tmod 4,3 * (1+(k.tdiv 36).tmod 7)⟩,fun _=>rfl,?_⟩
  refine ⟨fun _=>cR,fun _=>cS,fun _=>z2,fun _=>yI,fun _=>⟨by show _≤0 - (aT.tdiv 540).tmod 2 * 1073741825; omega,by show 0 - (aT.tdiv 540).tmod 2 * 1073741825≤_; omega⟩,?_⟩
  refine ⟨fun _=>⟨Int.le_refl 0,by simp⟩,[I (0 - (aT.tdiv 540).tmod 2 * 1073741825)],⟨rf,tv⟩,cM ⟨0,ao k,(k.tdiv 252).tmod 4,3 * (1+(k.tdiv 36).tmod 7)⟩,rfl,?_⟩
  refine ⟨by kernel_rfl,?_⟩
  rw [mQ hq]
  exact ⟨rf,tv⟩
 intro ke
 rw [mR (qf iZ) (qf je) (qf gR) (qf ke)]
 exact ⟨rf,tv⟩
end Go.Proofs.YtpbdohkbiklflaaGreatDoor
namespace Go.Proofs.YtpbdohkbiklflaaGreatDoor
open Go.TM
variable [cG]
set_option maxRecDepth 100000
set_option maxHeartbeats 4000000 in
theorem PI (l:List Int) (hl:∀x∈l,yw x) (at' tick:Int) (bad:Bool) (ha:0≤at'∧at'≤1000000) (ht:0≤tick∧tick≤1099511627776) (hc:(bD l (at'+1) 1000000).tmod 6=4):cr Tryz.prog 19 [eE l,I at',I tick,B bad] [fT (eg l at' tick bad)]:=by
 refine bq aD mixed (af _) (ai _) Tryz.func19 rfl (by kernel_rfl) rfl ?_
 have De:=cK l at' 1000000 hl (by omega) (by omega)
 have qz:=cK l (at'+1) 1000000 hl (by omega) (by omega)
 obtain ⟨k0,k1⟩:=c8 l at' 1000000 (by omega)
 obtain ⟨w0,w1⟩:=c8 l (at'+1) 1000000 (by omega)
 refine .inl ⟨_,fun _=>De.ok,?_⟩
 unfold eg
 generalize bD l at' 1000000=k at *
 generalize bD l (at'+1) 1000000=aT at *
 obtain ⟨d6,d36,m9,g9,e6,Ed,oh,iP,m6,Pt,m7,Pu,m4,Pv,n4,Pw,f6,f54,f60,mA,g6,Ee,Ef,oi,h9,Px,Dn,BS,h3,Cn,h2,B9,i2,Py,ba,bb,cw,cR,Pz,z9,z6,PA,z3,z2,cx,cS,PB,o6,s0,yE,yF,yG,yH,yI,b3,b5,PC,PD,PE,b9,PF⟩:=uf k0 k1 w0 w1 ht
 refine .inl ⟨_,fun _=>(bE k k0).ok,?_⟩
 repeat first | refine ⟨fun _=>⟨by omega,by omega⟩,?_⟩ | refine ⟨fun _ h=>by omega,?_⟩
 refine .inl ⟨_,fun _=>(bE (k.tdiv 6+1+k.tmod 6) (by omega)).ok,?_⟩
 repeat first | refine ⟨fun _=>⟨by omega,by omega⟩,?_⟩ | refine ⟨fun _ h=>by omega,?_⟩
 refine .inl ⟨_,fun _=>qz.ok,?_⟩
 repeat first | refine ⟨fun _=>⟨by omega,by omega⟩,?_⟩ | refine ⟨fun _ h=>by omega,?_⟩
 clear e6 Ed oh iP g6 Ee Ef oi d6 d36 m9 g9 f6 f54 f60 mA
 refine And.intro (fun h=>absurd ((th h).symm.trans hc) (by decide)) ?_
 intro c0
 have c0:=qF c0
 refine And.intro (fun h=>absurd ((th h).symm.trans hc) (by decide)) ?_
 intro c1
 have c1:=qF c1
 refine And.intro (fun h=>absurd ((th h).symm.trans hc) (by decide)) ?_
 intro c2
 have c2:=qF c2
 refine And.intro (fun h=>absurd ((th h).symm.trans hc) (by decide)) ?_
 intro c3
 have c3:=qF c3
 refine And.intro ?_ (fun h=>absurd hc (qF h))
 intro c4
 have c4:=th c4
 have hB:dW k aT=((aT.tdiv 6).tmod 11,[⟨ao k,0,(k.tdiv 252).tmod 4,1+(k.tdiv 36).tmod 7⟩]):=by unfold dW; simp only; rw [if_neg (by omega),if_neg (by omega),if_pos (by omega)]
 repeat refine ⟨fun _=>by assumption,?_⟩
 refine Or.inr ?_
 refine Or.inl ?_
 refine ⟨[cM ⟨ao k,0,(k.tdiv 252).tmod 4,1+(k.tdiv 36).tmod 7⟩],rfl,⟨rf,rf,rf,rf,rf,tv⟩,(by simp; rfl),?_⟩
 unfold kA; rw [hB]
 refine ⟨id,fun _=>cw,fun _=>cx,id,fun _=>z9,id,fun _ h=>ay h,?_⟩
 refine And.intro ?_ ?_
 ·intro iZ
  have hq:=qt iZ
  refine ⟨fun _=>cR,fun _=>cS,fun _=>z3,fun _=>s0,?_⟩
  refine ⟨fun _=>⟨Int.le_refl 0,by simp⟩,[I ((aT.tdiv 540).tmod 3 - 1)],⟨rf,tv⟩,cM ⟨ao k,0,(k.tdiv 252).tmod 4,1+(k.tdiv 36).tmod 7⟩,rfl,?_⟩
  refine ⟨id,fun _=>cw,fun _=>cx,id,fun _=>z9,id,fun _ h=>ay h,?_⟩
  refine And.intro ?_ ?_
  ·intro h; exact absurd ((qt h).2.symm.trans hq.2) (by decide)
  intro _
  refine ⟨id,fun _=>cw,fun _=>cx,id,fun _=>z9,id,fun _ h=>ay h,?_⟩
  refine And.intro ?_ ?_
  ·intro h; exact absurd ((qt h).2.symm.trans hq.2) (by decide)
  intro _
  refine ⟨id,fun _=>cw,fun _=>cx,id,fun _=>z9,id,fun _ h=>ay h,?_⟩
  refine And.intro ?_ ?_
  ·intro h; exact absurd ((qt h).2.symm.trans hq.2) (by decide)
  intro _
  rw [mN hq]
  exact ⟨rf,tv⟩
 intro iZ
 refine ⟨id,fun _=>cw,fun _=>cx,id,fun _=>z9,id,fun _ h=>ay h,?_⟩
 refine And.intro ?_ ?_
 ·intro je
  have hq:=qt je
  refine ⟨fun _=>cR,fun _=>cS,fun _=>z2,fun _=>yE,fun _=>yF,?_⟩
  refine ⟨fun _=>⟨Int.le_refl 0,by simp⟩,[I (4 - (aT.tdiv 540).tmod 2 * 5)],⟨rf,tv⟩,cM ⟨ao k,0,(k.tdiv 252).tmod 4,1+(k.tdiv 36).tmod 7⟩,rfl,?_⟩
  refine ⟨id,fun _=>cw,fun _=>cx,id,fun _=>z9,id,fun _ h=>ay h,?_⟩
  refine And.intro ?_ ?_
  ·intro h; exact absurd ((qt h).2.symm.trans hq.2) (by decide)
  intro _
  refine ⟨id,fun _=>cw,fun _=>cx,id,fun _=>z9,id,fun _ h=>ay h,?_⟩
  refine And.intro ?_ ?_
  ·intro h; exact absurd ((qt h).2.symm.trans hq.2) (by decide)
  intro _
  rw [mO hq]
  exact ⟨rf,tv⟩
 intro je
 refine ⟨id,fun _=>cw,fun _=>cx,id,fun _=>z9,id,fun _ h=>ay h,?_⟩
 refine And.intro ?_ ?_
 ·intro gR
  have hq:=qt gR
  refine ⟨fun _=>yG,fun _=>cR,fun _=>cS,fun _=>z3,fun _=>yH,?_⟩
  refine ⟨id,fun _=>cw,fun _=>cx,id,fun _=>z9,id,fun _ h=>ay h,?_⟩
  refine And.intro ?_ ?_
  ·intro h; exact absurd ((qt h).2.symm.trans hq.2) (by decide)
  intro _
  rw [mP hq]
  exact ⟨rf,tv⟩
 intro gR
 refine ⟨id,fun _=>cw,fun _=>cx,id,fun _=>z9,id,fun _ h=>ay h,?_⟩
 refine And.intro ?_ ?_
 ·intro ke
  have hq:=qt ke
  skip
  refine ⟨fun _=>⟨Int.le_refl 0,by simp⟩,cM ⟨ao k,0,(k.tdiv 252).tmod 4,1+(k.tdiv 36).tmod 7⟩,fun _=>rfl,?_⟩
  refine ⟨fun _=>cR,fun _=>cS,fun _=>z2,fun _=>yI,fun _=>⟨by show _≤ao k - (aT.tdiv 540).tmod 2 * 1073741825; omega,by show ao k - (aT.tdiv 540).tmod 2 * 1073741825≤_; omega⟩,?_⟩
  refine ⟨fun _=>⟨Int.le_refl 0,by simp⟩,[I (ao k - (aT.tdiv 540).tmod 2 * 1073741825)],⟨rf,tv⟩,cM ⟨ao k,0,(k.tdiv 252).tmod 4,1+(k.tdiv 36).tmod 7⟩,rfl,?_⟩
  refine ⟨by kernel_rfl,?_⟩
  rw [mQ hq]
  exact ⟨rf,tv⟩
 intro ke
 rw [mR (qf iZ) (qf je) (qf gR) (qf ke)]
 exact ⟨rf,tv⟩
set_option maxHeartbeats 4000000 in
theorem PJ (l:List Int) (hl:∀x∈l,yw x) (at' tick:Int) (bad:Bool) (ha:0≤at'∧at'≤1000000) (ht:0≤tick∧tick≤1099511627776) (hc:(bD l (at'+1) 1000000).tmod 6=5):cr Tryz.prog 19 [eE l,I at',I tick,B bad] [fT (eg l at' tick bad)]:=by
 refine bq aD mixed (af _) (ai _) Tryz.func19 rfl (by kernel_rfl) rfl ?_
 have De:=cK l at' 1000000 hl (by omega) (by omega)
 have qz:=cK l (at'+1) 1000000 hl (by omega) (by omega)
 obtain ⟨k0,k1⟩:=c8 l at' 1000000 (by omega)
 obtain ⟨w0,w1⟩:=c8 l (at'+1) 1000000 (by omega)
 refine .inl ⟨_,fun _=>De.ok,?_⟩
 unfold eg
 generalize bD l at' 1000000=k at *
 generalize bD l (at'+1) 1000000=aT at *
 obtain ⟨d6,d36,m9,g9,e6,Ed,oh,iP,m6,Pt,m7,Pu,m4,Pv,n4,Pw,f6,f54,f60,mA,g6,Ee,Ef,oi,h9,Px,Dn,BS,h3,Cn,h2,B9,i2,Py,ba,bb,cw,cR,Pz,z9,z6,PA,z3,z2,cx,cS,PB,o6,s0,yE,yF,yG,yH,yI,b3,b5,PC,PD,PE,b9,PF⟩:=uf k0 k1 w0 w1 ht
 refine .inl ⟨_,fun _=>(bE k k0).ok,?_⟩
 repeat first | refine ⟨fun _=>⟨by omega,by omega⟩,?_⟩ | refine ⟨fun _ h=>by omega,?_⟩
 refine .inl ⟨_,fun _=>(bE (k.tdiv 6+1+k.tmod 6) (by omega)).ok,?_⟩
 repeat first | refine ⟨fun _=>⟨by omega,by omega⟩,?_⟩ | refine ⟨fun _ h=>by omega,?_⟩
 refine .inl ⟨_,fun _=>qz.ok,?_⟩
 repeat first | refine ⟨fun _=>⟨by omega,by omega⟩,?_⟩ | refine ⟨fun _ h=>by omega,?_⟩
 clear e6 Ed oh iP g6 Ee Ef oi d6 d36 m9 g9 f6 f54 f60 mA
 refine And.intro (fun h=>absurd ((th h).symm.trans hc) (by decide)) ?_
 intro c0
 have c0:=qF c0
 refine And.intro (fun h=>absurd ((th h).symm.trans hc) (by decide)) ?_
 intro c1
 have c1:=qF c1
 refine And.intro (fun h=>absurd ((th h).symm.trans hc) (by decide)) ?_
 intro c2
 have c2:=qF c2
 refine And.intro (fun h=>absurd ((th h).symm.trans hc) (by decide)) ?_
 intro c3
 have c3:=qF c3
 refine And.intro (fun h=>absurd ((th h).symm.trans hc) (by decide)) ?_
 intro c4
 have c4:=qF c4
 have hB:dW k aT=(2,[⟨0,ao k,(k.tdiv 252).tmod 4,1+(k.tdiv 36).tmod 7⟩,⟨ao k,3 * ao k,(k.tdiv 252).tmod 4,1+(k.tdiv 36).tmod 7⟩,⟨3 * ao k,ao k,(k.tdiv 252).tmod 4,1⟩]):=by unfold dW; simp only; rw [if_neg (by omega),if_neg (by omega),if_neg (by omega)]
 repeat refine ⟨fun _=>by assumption,?_⟩
 refine Or.inr ?_
 refine Or.inl ?_
 refine ⟨[cM ⟨0,ao k,(k.tdiv 252).tmod 4,1+(k.tdiv 36).tmod 7⟩,cM ⟨ao k,3 * ao k,(k.tdiv 252).tmod 4,1+(k.tdiv 36).tmod 7⟩,cM ⟨3 * ao k,ao k,(k.tdiv 252).tmod 4,1⟩],rfl,⟨rf,rf,rf,rf,rf,rf,rf,rf,rf,rf,rf,rf,rf,rf,rf,tv⟩,(by simp; exact ⟨rfl,rfl,rfl⟩),?_⟩
 unfold kA; rw [hB]
 refine ⟨id,fun _=>cw,fun _=>cx,id,fun _=>z9,id,fun _ h=>ay h,?_⟩
 refine And.intro ?_ ?_
 ·intro iZ
  have hq:=qt iZ
  refine ⟨fun _=>cR,fun _=>cS,fun _=>z3,fun _=>s0,?_⟩
  refine ⟨fun _=>⟨Int.le_refl 0,by simp⟩,[I ((aT.tdiv 540).tmod 3 - 1)],⟨rf,tv⟩,cM ⟨0,ao k,(k.tdiv 252).tmod 4,1+(k.tdiv 36).tmod 7⟩,rfl,?_⟩
  refine ⟨id,fun _=>cw,fun _=>cx,id,fun _=>z9,id,fun _ h=>ay h,?_⟩
  refine And.intro ?_ ?_
  ·intro h; exact absurd ((qt h).2.symm.trans hq.2) (by decide)
  intro _
  refine ⟨id,fun _=>cw,fun _=>cx,id,fun _=>z9,id,fun _ h=>ay h,?_⟩
  refine And.intro ?_ ?_
  ·intro h; exact absurd ((qt h).2.symm.trans hq.2) (by decide)
  intro _
  refine ⟨id,fun _=>cw,fun _=>cx,id,fun _=>z9,id,fun _ h=>ay h,?_⟩
  refine And.intro ?_ ?_
  ·intro h; exact absurd ((qt h).2.symm.trans hq.2) (by decide)
  intro _
  rw [mN hq]
  exact ⟨rf,tv⟩
 intro iZ
 refine ⟨id,fun _=>cw,fun _=>cx,id,fun _=>z9,id,fun _ h=>ay h,?_⟩
 refine And.intro ?_ ?_
 ·intro je
  have hq:=qt je
  refine ⟨fun _=>cR,fun _=>cS,fun _=>z2,fun _=>yE,fun _=>yF,?_⟩
  refine ⟨fun _=>⟨Int.le_refl 0,by simp⟩,[I (4 - (aT.tdiv 540).tmod 2 * 5)],⟨rf,tv⟩,cM ⟨0,ao k,(k.tdiv 252).tmod 4,1+(k.tdiv 36).tmod 7⟩,rfl,?_⟩
  refine ⟨id,fun _=>cw,fun _=>cx,id,fun _=>z9,id,fun _ h=>ay h,?_⟩
  refine And.intro ?_ ?_
  ·intro h; exact absurd ((qt h).2.symm.trans hq.2) (by decide)
  intro _
  refine ⟨id,fun _=>cw,fun _=>cx,id,fun _=>z9,id,fun _ h=>ay h,?_⟩
  refine And.intro ?_ ?_
  ·intro h; exact absurd ((qt h).2.symm.trans hq.2) (by decide)
  intro _
  rw [mO hq]
  exact ⟨rf,tv⟩
 intro je
 refine ⟨id,fun _=>cw,fun _=>cx,id,fun _=>z9,id,fun _ h=>ay h,?_⟩
 refine And.intro ?_ ?_
 ·intro gR
  have hq:=qt gR
  refine ⟨fun _=>yG,fun _=>cR,fun _=>cS,fun _=>z3,fun _=>yH,?_⟩
  refine ⟨id,fun _=>cw,fun _=>cx,id,fun _=>z9,id,fun _ h=>ay h,?_⟩
  refine And.intro ?_ ?_
  ·intro h; exact absurd ((qt h).2.symm.trans hq.2) (by decide)
  intro _
  rw [mP hq]
  exact ⟨rf,tv⟩
 intro gR
 refine ⟨id,fun _=>cw,fun _=>cx,id,fun _=>z9,id,fun _ h=>ay h,?_⟩
 refine And.intro ?_ ?_
 ·intro ke
  have hq:=qt ke
  skip
  refine ⟨fun _=>⟨Int.le_refl 0,by simp⟩,cM ⟨0,ao k,(k.tdiv 252).tmod 4,1+(k.tdiv 36).tmod 7⟩,fun _=>rfl,?_⟩
  refine ⟨fun _=>cR,fun _=>cS,fun _=>z2,fun _=>yI,fun _=>⟨by show _≤0 - (aT.tdiv 540).tmod 2 * 1073741825; omega,by show 0 - (aT.tdiv 540).tmod 2 * 1073741825≤_; omega⟩,?_⟩
  refine ⟨fun _=>⟨Int.le_refl 0,by simp⟩,[I (0 - (aT.tdiv 540).tmod 2 * 1073741825)],⟨rf,tv⟩,cM ⟨0,ao k,(k.tdiv 252).tmod 4,1+(k.tdiv 36).tmod 7⟩,rfl,?_⟩
  refine ⟨by kernel_rfl,?_⟩
  rw [mQ hq]
  exact ⟨rf,tv⟩
 intro ke
 rw [mR (qf iZ) (qf je) (qf gR) (qf ke)]
 exact ⟨rf,tv⟩
end Go.Proofs.YtpbdohkbiklflaaGreatDoor
namespace Go.Proofs.YtpbdohkbiklflaaGreatDoor
open Go.TM
variable [cG]
set_option maxRecDepth 100000
set_option maxHeartbeats 4000000 in
theorem M8 (l:List Int) (hl:∀x∈l,yw x) (at' tick:Int) (bad:Bool) (ha:0≤at'∧at'≤1000000) (ht:0≤tick∧tick≤1099511627776) (hc:(bD l (at'+1) 1000000).tmod 6=2) (hd:ao (bD l at' 1000000)=ao ((bD l at' 1000000).tdiv 6+1+(bD l at' 1000000).tmod 6)):cr Tryz.prog 19 [eE l,I at',I tick,B bad] [fT (eg l at' tick bad)]:=by
 refine bq aD mixed (af _) (ai _) Tryz.func19 rfl (by kernel_rfl) rfl ?_
 have De:=cK l at' 1000000 hl (by omega) (by omega)
 have qz:=cK l (at'+1) 1000000 hl (by omega) (by omega)
 obtain ⟨k0,k1⟩:=c8 l at' 1000000 (by omega)
 obtain ⟨w0,w1⟩:=c8 l (at'+1) 1000000 (by omega)
 refine .inl ⟨_,fun _=>De.ok,?_⟩
 unfold eg
 generalize bD l at' 1000000=k at *
 generalize bD l (at'+1) 1000000=aT at *
 obtain ⟨d6,d36,m9,g9,e6,Ed,oh,iP,m6,Pt,m7,Pu,m4,Pv,n4,Pw,f6,f54,f60,mA,g6,Ee,Ef,oi,h9,Px,Dn,BS,h3,Cn,h2,B9,i2,Py,ba,bb,cw,cR,Pz,z9,z6,PA,z3,z2,cx,cS,PB,o6,s0,yE,yF,yG,yH,yI,b3,b5,PC,PD,PE,b9,PF⟩:=uf k0 k1 w0 w1 ht
 refine .inl ⟨_,fun _=>(bE k k0).ok,?_⟩
 repeat first | refine ⟨fun _=>⟨by omega,by omega⟩,?_⟩ | refine ⟨fun _ h=>by omega,?_⟩
 refine .inl ⟨_,fun _=>(bE (k.tdiv 6+1+k.tmod 6) (by omega)).ok,?_⟩
 repeat first | refine ⟨fun _=>⟨by omega,by omega⟩,?_⟩ | refine ⟨fun _ h=>by omega,?_⟩
 refine .inl ⟨_,fun _=>qz.ok,?_⟩
 repeat first | refine ⟨fun _=>⟨by omega,by omega⟩,?_⟩ | refine ⟨fun _ h=>by omega,?_⟩
 clear e6 Ed oh iP g6 Ee Ef oi d6 d36 m9 g9 f6 f54 f60 mA
 refine And.intro (fun h=>absurd ((th h).symm.trans hc) (by decide)) ?_
 intro c0
 have c0:=qF c0
 refine And.intro (fun h=>absurd ((th h).symm.trans hc) (by decide)) ?_
 intro c1
 have c1:=qF c1
 refine And.intro ?_ (fun h=>absurd hc (qF h))
 intro c2
 have c2:=th c2
 refine And.intro ?_ (fun h=>absurd c2 (qF h))
 intro _
 refine And.intro ?_ (fun h=>absurd hd (by simpa using h))
 ·intro tA
  have tA:ao k=ao (k.tdiv 6+1+k.tmod 6):=by simpa using tA
  repeat refine ⟨fun _=>by assumption,?_⟩
  refine Or.inr ?_
  refine Or.inl ?_
  refine ⟨[cM ⟨ao k,ao k+1,((k.tdiv 252).tmod 4).tdiv 2 * 2,1+(k.tdiv 36).tmod 7⟩,cM ⟨ao k+1,ao k,1,1+(aT.tdiv 6).tmod 9⟩],rfl,⟨rf,rf,rf,rf,rf,rf,rf,rf,rf,rf,tv⟩,(by simp; exact ⟨rfl,rfl⟩),?_⟩
  repeat refine ⟨fun _=>by assumption,?_⟩
  refine And.intro ?_ ?_
  ·intro qA
   have qA:(aT.tdiv 54).tmod 2=1:=by simpa using qA
   have hB:dW k aT=(2,[⟨ao k+1,ao k,1,1+(aT.tdiv 6).tmod 9⟩,⟨ao k,ao k+1,((k.tdiv 252).tmod 4).tdiv 2 * 2,1+(k.tdiv 36).tmod 7⟩]):=by unfold dW; simp only; rw [if_neg (by omega),if_pos (by omega),if_pos tA,if_pos qA]
   refine ⟨fun _=>⟨by decide,by simp⟩,cM ⟨ao k+1,ao k,1,1+(aT.tdiv 6).tmod 9⟩,fun _=>rfl,?_⟩
   refine ⟨fun _=>⟨Int.le_refl 0,by simp⟩,cM ⟨ao k,ao k+1,((k.tdiv 252).tmod 4).tdiv 2 * 2,1+(k.tdiv 36).tmod 7⟩,fun _=>rfl,?_⟩
   refine Or.inr ?_
   refine Or.inl ?_
   refine ⟨[cM ⟨ao k+1,ao k,1,1+(aT.tdiv 6).tmod 9⟩,cM ⟨ao k,ao k+1,((k.tdiv 252).tmod 4).tdiv 2 * 2,1+(k.tdiv 36).tmod 7⟩],rfl,⟨rf,rf,rf,rf,rf,rf,rf,rf,rf,rf,tv⟩,(by simp; exact ⟨rfl,rfl⟩),?_⟩
   refine ⟨by kernel_rfl,?_⟩
   unfold kA; rw [hB]
   refine ⟨id,fun _=>cw,fun _=>cx,id,fun _=>z9,id,fun _ h=>ay h,?_⟩
   refine And.intro ?_ ?_
   ·intro iZ
    have hq:=qt iZ
    refine ⟨fun _=>cR,fun _=>cS,fun _=>z3,fun _=>s0,?_⟩
    refine ⟨fun _=>⟨Int.le_refl 0,by simp⟩,[I ((aT.tdiv 540).tmod 3 - 1)],⟨rf,tv⟩,cM ⟨ao k+1,ao k,1,1+(aT.tdiv 6).tmod 9⟩,rfl,?_⟩
    refine ⟨id,fun _=>cw,fun _=>cx,id,fun _=>z9,id,fun _ h=>ay h,?_⟩
    refine And.intro ?_ ?_
    ·intro h; exact absurd ((qt h).2.symm.trans hq.2) (by decide)
    intro _
    refine ⟨id,fun _=>cw,fun _=>cx,id,fun _=>z9,id,fun _ h=>ay h,?_⟩
    refine And.intro ?_ ?_
    ·intro h; exact absurd ((qt h).2.symm.trans hq.2) (by decide)
    intro _
    refine ⟨id,fun _=>cw,fun _=>cx,id,fun _=>z9,id,fun _ h=>ay h,?_⟩
    refine And.intro ?_ ?_
    ·intro h; exact absurd ((qt h).2.symm.trans hq.2) (by decide)
    intro _
    rw [mN hq]
    exact ⟨rf,tv⟩
   intro iZ
   refine ⟨id,fun _=>cw,fun _=>cx,id,fun _=>z9,id,fun _ h=>ay h,?_⟩
   refine And.intro ?_ ?_
   ·intro je
    have hq:=qt je
    refine ⟨fun _=>cR,fun _=>cS,fun _=>z2,fun _=>yE,fun _=>yF,?_⟩
    refine ⟨fun _=>⟨Int.le_refl 0,by simp⟩,[I (4 - (aT.tdiv 540).tmod 2 * 5)],⟨rf,tv⟩,cM ⟨ao k+1,ao k,1,1+(aT.tdiv 6).tmod 9⟩,rfl,?_⟩
    refine ⟨id,fun _=>cw,fun _=>cx,id,fun _=>z9,id,fun _ h=>ay h,?_⟩
    refine And.intro ?_ ?_
    ·intro h; exact absurd ((qt h).2.symm.trans hq.2) (by decide)
    intro _
    refine ⟨id,fun _=>cw,fun _=>cx,id,fun _=>z9,id,fun _ h=>ay h,?_⟩
    refine And.intro ?_ ?_
    ·intro h; exact absurd ((qt h).2.symm.trans hq.2) (by decide)
    intro _
    rw [mO hq]
    exact ⟨rf,tv⟩
   intro je
   refine ⟨id,fun _=>cw,fun _=>cx,id,fun _=>z9,id,fun _ h=>ay h,?_⟩
   refine And.intro ?_ ?_
   ·intro gR
    have hq:=qt gR
    refine ⟨fun _=>yG,fun _=>cR,fun _=>cS,fun _=>z3,fun _=>yH,?_⟩
    refine ⟨id,fun _=>cw,fun _=>cx,id,fun _=>z9,id,fun _ h=>ay h,?_⟩
    refine And.intro ?_ ?_
    ·intro h; exact absurd ((qt h).2.symm.trans hq.2) (by decide)
    intro _
    rw [mP hq]
    exact ⟨rf,tv⟩
   intro gR
   refine ⟨id,fun _=>cw,fun _=>cx,id,fun _=>z9,id,fun _ h=>ay h,?_⟩
   refine And.intro ?_ ?_
   ·intro ke
    have hq:=qt ke
    skip
    refine ⟨fun _=>⟨Int.le_refl 0,by simp⟩,cM ⟨ao k+1,ao k,1,1+(aT.tdiv 6).tmod 9⟩,fun _=>rfl,?_⟩
    refine ⟨fun _=>cR,fun _=>cS,fun _=>z2,fun _=>yI,fun _=>⟨by show _≤ao k+1 - (aT.tdiv 540).tmod 2 * 1073741825; omega,by show ao k+1 - (aT.tdiv 540).tmod 2 * 1073741825≤_; omega⟩,?_⟩
    refine ⟨fun _=>⟨Int.le_refl 0,by simp⟩,[I (ao k+1 - (aT.tdiv 540).tmod 2 * 1073741825)],⟨rf,tv⟩,cM ⟨ao k+1,ao k,1,1+(aT.tdiv 6).tmod 9⟩,rfl,?_⟩
    refine ⟨by kernel_rfl,?_⟩
    rw [mQ hq]
    exact ⟨rf,tv⟩
   intro ke
   rw [mR (qf iZ) (qf je) (qf gR) (qf ke)]
   exact ⟨rf,tv⟩
  ·intro qA
   have qA:¬ (aT.tdiv 54).tmod 2=1:=by simpa using qA
   have hB:dW k aT=(2,[⟨ao k,ao k+1,((k.tdiv 252).tmod 4).tdiv 2 * 2,1+(k.tdiv 36).tmod 7⟩,⟨ao k+1,ao k,1,1+(aT.tdiv 6).tmod 9⟩]):=by unfold dW; simp only; rw [if_neg (by omega),if_pos (by omega),if_pos tA,if_neg qA]
   unfold kA; rw [hB]
   refine ⟨id,fun _=>cw,fun _=>cx,id,fun _=>z9,id,fun _ h=>ay h,?_⟩
   refine And.intro ?_ ?_
   ·intro iZ
    have hq:=qt iZ
    refine ⟨fun _=>cR,fun _=>cS,fun _=>z3,fun _=>s0,?_⟩
    refine ⟨fun _=>⟨Int.le_refl 0,by simp⟩,[I ((aT.tdiv 540).tmod 3 - 1)],⟨rf,tv⟩,cM ⟨ao k,ao k+1,((k.tdiv 252).tmod 4).tdiv 2 * 2,1+(k.tdiv 36).tmod 7⟩,rfl,?_⟩
    refine ⟨id,fun _=>cw,fun _=>cx,id,fun _=>z9,id,fun _ h=>ay h,?_⟩
    refine And.intro ?_ ?_
    ·intro h; exact absurd ((qt h).2.symm.trans hq.2) (by decide)
    intro _
    refine ⟨id,fun _=>cw,fun _=>cx,id,fun _=>z9,id,fun _ h=>ay h,?_⟩
    refine And.intro ?_ ?_
    ·intro h; exact absurd ((qt h).2.symm.trans hq.2) (by decide)
    intro _
    refine ⟨id,fun _=>cw,fun _=>cx,id,fun _=>z9,id,fun _ h=>ay h,?_⟩
    refine And.intro ?_ ?_
    ·intro h; exact absurd ((qt h).2.symm.trans hq.2) (by decide)
    intro _
    rw [mN hq]
    exact ⟨rf,tv⟩
   intro iZ
   refine ⟨id,fun _=>cw,fun _=>cx,id,fun _=>z9,id,fun _ h=>ay h,?_⟩
   refine And.intro ?_ ?_
   ·intro je
    have hq:=qt je
    refine ⟨fun _=>cR,fun _=>cS,fun _=>z2,fun _=>yE,fun _=>yF,?_⟩
    refine ⟨fun _=>⟨Int.le_refl 0,by simp⟩,[I (4 - (aT.tdiv 540).tmod 2 * 5)],⟨rf,tv⟩,cM ⟨ao k,ao k+1,((k.tdiv 252).tmod 4).tdiv 2 * 2,1+(k.tdiv 36).tmod 7⟩,rfl,?_⟩
    refine ⟨id,fun _=>cw,fun _=>cx,id,fun _=>z9,id,fun _ h=>ay h,?_⟩
    refine And.intro ?_ ?_
    ·intro h; exact absurd ((qt h).2.symm.trans hq.2) (by decide)
    intro _
    refine ⟨id,fun _=>cw,fun _=>cx,id,fun _=>z9,id,fun _ h=>ay h,?_⟩
    refine And.intro ?_ ?_
    ·intro h; exact absurd ((qt h).2.symm.trans hq.2) (by decide)
    intro _
    rw [mO hq]
    exact ⟨rf,tv⟩
   intro je
   refine ⟨id,fun _=>cw,fun _=>cx,id,fun _=>z9,id,fun _ h=>ay h,?_⟩
   refine And.intro ?_ ?_
   ·intro gR
    have hq:=qt gR
    refine ⟨fun _=>yG,fun _=>cR,fun _=>cS,fun _=>z3,fun _=>yH,?_⟩
    refine ⟨id,fun _=>cw,fun _=>cx,id,fun _=>z9,id,fun _ h=>ay h,?_⟩
    refine And.intro ?_ ?_
    ·intro h; exact absurd ((qt h).2.symm.trans hq.2) (by decide)
    intro _
    rw [mP hq]
    exact ⟨rf,tv⟩
   intro gR
   refine ⟨id,fun _=>cw,fun _=>cx,id,fun _=>z9,id,fun _ h=>ay h,?_⟩
   refine And.intro ?_ ?_
   ·intro ke
    have hq:=qt ke
    skip
    refine ⟨fun _=>⟨Int.le_refl 0,by simp⟩,cM ⟨ao k,ao k+1,((k.tdiv 252).tmod 4).tdiv 2 * 2,1+(k.tdiv 36).tmod 7⟩,fun _=>rfl,?_⟩
    refine ⟨fun _=>cR,fun _=>cS,fun _=>z2,fun _=>yI,fun _=>⟨by show _≤ao k - (aT.tdiv 540).tmod 2 * 1073741825; omega,by show ao k - (aT.tdiv 540).tmod 2 * 1073741825≤_; omega⟩,?_⟩
    refine ⟨fun _=>⟨Int.le_refl 0,by simp⟩,[I (ao k - (aT.tdiv 540).tmod 2 * 1073741825)],⟨rf,tv⟩,cM ⟨ao k,ao k+1,((k.tdiv 252).tmod 4).tdiv 2 * 2,1+(k.tdiv 36).tmod 7⟩,rfl,?_⟩
    refine ⟨by kernel_rfl,?_⟩
    rw [mQ hq]
    exact ⟨rf,tv⟩
   intro ke
   rw [mR (qf iZ) (qf je) (qf gR) (qf ke)]
   exact ⟨rf,tv⟩
end Go.Proofs.YtpbdohkbiklflaaGreatDoor
namespace Go.Proofs.YtpbdohkbiklflaaGreatDoor
open Go.TM
variable [cG]
set_option maxRecDepth 100000
set_option maxHeartbeats 4000000 in
theorem M9 (l:List Int) (hl:∀x∈l,yw x) (at' tick:Int) (bad:Bool) (ha:0≤at'∧at'≤1000000) (ht:0≤tick∧tick≤1099511627776) (hc:(bD l (at'+1) 1000000).tmod 6=2) (hd:¬ ao (bD l at' 1000000)=ao ((bD l at' 1000000).tdiv 6+1+(bD l at' 1000000).tmod 6)):cr Tryz.prog 19 [eE l,I at',I tick,B bad] [fT (eg l at' tick bad)]:=by
 refine bq aD mixed (af _) (ai _) Tryz.func19 rfl (by kernel_rfl) rfl ?_
 have De:=cK l at' 1000000 hl (by omega) (by omega)
 have qz:=cK l (at'+1) 1000000 hl (by omega) (by omega)
 obtain ⟨k0,k1⟩:=c8 l at' 1000000 (by omega)
 obtain ⟨w0,w1⟩:=c8 l (at'+1) 1000000 (by omega)
 refine .inl ⟨_,fun _=>De.ok,?_⟩
 unfold eg
 generalize bD l at' 1000000=k at *
 generalize bD l (at'+1) 1000000=aT at *
 obtain ⟨d6,d36,m9,g9,e6,Ed,oh,iP,m6,Pt,m7,Pu,m4,Pv,n4,Pw,f6,f54,f60,mA,g6,Ee,Ef,oi,h9,Px,Dn,BS,h3,Cn,h2,B9,i2,Py,ba,bb,cw,cR,Pz,z9,z6,PA,z3,z2,cx,cS,PB,o6,s0,yE,yF,yG,yH,yI,b3,b5,PC,PD,PE,b9,PF⟩:=uf k0 k1 w0 w1 ht
 refine .inl ⟨_,fun _=>(bE k k0).ok,?_⟩
 repeat first | refine ⟨fun _=>⟨by omega,by omega⟩,?_⟩ | refine ⟨fun _ h=>by omega,?_⟩
 refine .inl ⟨_,fun _=>(bE (k.tdiv 6+1+k.tmod 6) (by omega)).ok,?_⟩
 repeat first | refine ⟨fun _=>⟨by omega,by omega⟩,?_⟩ | refine ⟨fun _ h=>by omega,?_⟩
 refine .inl ⟨_,fun _=>qz.ok,?_⟩
 repeat first | refine ⟨fun _=>⟨by omega,by omega⟩,?_⟩ | refine ⟨fun _ h=>by omega,?_⟩
 clear e6 Ed oh iP g6 Ee Ef oi d6 d36 m9 g9 f6 f54 f60 mA
 refine And.intro (fun h=>absurd ((th h).symm.trans hc) (by decide)) ?_
 intro c0
 have c0:=qF c0
 refine And.intro (fun h=>absurd ((th h).symm.trans hc) (by decide)) ?_
 intro c1
 have c1:=qF c1
 refine And.intro ?_ (fun h=>absurd hc (qF h))
 intro c2
 have c2:=th c2
 refine And.intro ?_ (fun h=>absurd c2 (qF h))
 intro _
 refine And.intro (fun h=>absurd (by simpa using h) hd) ?_
 ·intro tA
  have tA:¬ ao k=ao (k.tdiv 6+1+k.tmod 6):=by simpa using tA
  repeat refine ⟨fun _=>by assumption,?_⟩
  refine Or.inr ?_
  refine Or.inl ?_
  refine ⟨[cM ⟨ao k,ao (k.tdiv 6+1+k.tmod 6),((k.tdiv 252).tmod 4).tdiv 2 * 2,1+(k.tdiv 36).tmod 7⟩,cM ⟨ao (k.tdiv 6+1+k.tmod 6),ao k,1,1+(aT.tdiv 6).tmod 9⟩],rfl,⟨rf,rf,rf,rf,rf,rf,rf,rf,rf,rf,tv⟩,(by simp; exact ⟨rfl,rfl⟩),?_⟩
  repeat refine ⟨fun _=>by assumption,?_⟩
  refine And.intro ?_ ?_
  ·intro qA
   have qA:(aT.tdiv 54).tmod 2=1:=by simpa using qA
   have hB:dW k aT=(2,[⟨ao (k.tdiv 6+1+k.tmod 6),ao k,1,1+(aT.tdiv 6).tmod 9⟩,⟨ao k,ao (k.tdiv 6+1+k.tmod 6),((k.tdiv 252).tmod 4).tdiv 2 * 2,1+(k.tdiv 36).tmod 7⟩]):=by unfold dW; simp only; rw [if_neg (by omega),if_pos (by omega),if_neg tA,if_pos qA]
   refine ⟨fun _=>⟨by decide,by simp⟩,cM ⟨ao (k.tdiv 6+1+k.tmod 6),ao k,1,1+(aT.tdiv 6).tmod 9⟩,fun _=>rfl,?_⟩
   refine ⟨fun _=>⟨Int.le_refl 0,by simp⟩,cM ⟨ao k,ao (k.tdiv 6+1+k.tmod 6),((k.tdiv 252).tmod 4).tdiv 2 * 2,1+(k.tdiv 36).tmod 7⟩,fun _=>rfl,?_⟩
   refine Or.inr ?_
   refine Or.inl ?_
   refine ⟨[cM ⟨ao (k.tdiv 6+1+k.tmod 6),ao k,1,1+(aT.tdiv 6).tmod 9⟩,cM ⟨ao k,ao (k.tdiv 6+1+k.tmod 6),((k.tdiv 252).tmod 4).tdiv 2 * 2,1+(k.tdiv 36).tmod 7⟩],rfl,⟨rf,rf,rf,rf,rf,rf,rf,rf,rf,rf,tv⟩,(by simp; exact ⟨rfl,rfl⟩),?_⟩
   refine ⟨by kernel_rfl,?_⟩
   unfold kA; rw [hB]
   refine ⟨id,fun _=>cw,fun _=>cx,id,fun _=>z9,id,fun _ h=>ay h,?_⟩
   refine And.intro ?_ ?_
   ·intro iZ
    have hq:=qt iZ
    refine ⟨fun _=>cR,fun _=>cS,fun _=>z3,fun _=>s0,?_⟩
    refine ⟨fun _=>⟨Int.le_refl 0,by simp⟩,[I ((aT.tdiv 540).tmod 3 - 1)],⟨rf,tv⟩,cM ⟨ao (k.tdiv 6+1+k.tmod 6),ao k,1,1+(aT.tdiv 6).tmod 9⟩,rfl,?_⟩
    refine ⟨id,fun _=>cw,fun _=>cx,id,fun _=>z9,id,fun _ h=>ay h,?_⟩
    refine And.intro ?_ ?_
    ·intro h; exact absurd ((qt h).2.symm.trans hq.2) (by decide)
    intro _
    refine ⟨id,fun _=>cw,fun _=>cx,id,fun _=>z9,id,fun _ h=>ay h,?_⟩
    refine And.intro ?_ ?_
    ·intro h; exact absurd ((qt h).2.symm.trans hq.2) (by decide)
    intro _
    refine ⟨id,fun _=>cw,fun _=>cx,id,fun _=>z9,id,fun _ h=>ay h,?_⟩
    refine And.intro ?_ ?_
    ·intro h; exact absurd ((qt h).2.symm.trans hq.2) (by decide)
    intro _
    rw [mN hq]
    exact ⟨rf,tv⟩
   intro iZ
   refine ⟨id,fun _=>cw,fun _=>cx,id,fun _=>z9,id,fun _ h=>ay h,?_⟩
   refine And.intro ?_ ?_
   ·intro je
    have hq:=qt je
    refine ⟨fun _=>cR,fun _=>cS,fun _=>z2,fun _=>yE,fun _=>yF,?_⟩
    refine ⟨fun _=>⟨Int.le_refl 0,by simp⟩,[I (4 - (aT.tdiv 540).tmod 2 * 5)],⟨rf,tv⟩,cM ⟨ao (k.tdiv 6+1+k.tmod 6),ao k,1,1+(aT.tdiv 6).tmod 9⟩,rfl,?_⟩
    refine ⟨id,fun _=>cw,fun _=>cx,id,fun _=>z9,id,fun _ h=>ay h,?_⟩
    refine And.intro ?_ ?_
    ·intro h; exact absurd ((qt h).2.symm.trans hq.2) (by decide)
    intro _
    refine ⟨id,fun _=>cw,fun _=>cx,id,fun _=>z9,id,fun _ h=>ay h,?_⟩
    refine And.intro ?_ ?_
    ·intro h; exact absurd ((qt h).2.symm.trans hq.2) (by decide)
    intro _
    rw [mO hq]
    exact ⟨rf,tv⟩
   intro je
   refine ⟨id,fun _=>cw,fun _=>cx,id,fun _=>z9,id,fun _ h=>ay h,?_⟩
   refine And.intro ?_ ?_
   ·intro gR
    have hq:=qt gR
    refine ⟨fun _=>yG,fun _=>cR,fun _=>cS,fun _=>z3,fun _=>yH,?_⟩
    refine ⟨id,fun _=>cw,fun _=>cx,id,fun _=>z9,id,fun _ h=>ay h,?_⟩
    refine And.intro ?_ ?_
    ·intro h; exact absurd ((qt h).2.symm.trans hq.2) (by decide)
    intro _
    rw [mP hq]
    exact ⟨rf,tv⟩
   intro gR
   refine ⟨id,fun _=>cw,fun _=>cx,id,fun _=>z9,id,fun _ h=>ay h,?_⟩
   refine And.intro ?_ ?_
   ·intro ke
    have hq:=qt ke
    skip
    refine ⟨fun _=>⟨Int.le_refl 0,by simp⟩,cM ⟨ao (k.tdiv 6+1+k.tmod 6),ao k,1,1+(aT.tdiv 6).tmod 9⟩,fun _=>rfl,?_⟩
    refine ⟨fun _=>cR,fun _=>cS,fun _=>z2,fun _=>yI,fun _=>⟨by show _≤ao (k.tdiv 6+1+k.tmod 6) - (aT.tdiv 540).tmod 2 * 1073741825; omega,by show ao (k.tdiv 6+1+k.tmod 6) - (aT.tdiv 540).tmod 2 * 1073741825≤_; omega⟩,?_⟩
    refine ⟨fun _=>⟨Int.le_refl 0,by simp⟩,[I (ao (k.tdiv 6+1+k.tmod 6) - (aT.tdiv 540).tmod 2 * 1073741825)],⟨rf,tv⟩,cM ⟨ao (k.tdiv 6+1+k.tmod 6),ao k,1,1+(aT.tdiv 6).tmod 9⟩,rfl,?_⟩
    refine ⟨by kernel_rfl,?_⟩
    rw [mQ hq]
    exact ⟨rf,tv⟩
   intro ke
   rw [mR (qf iZ) (qf je) (qf gR) (qf ke)]
   exact ⟨rf,tv⟩
  ·intro qA
   have qA:¬ (aT.tdiv 54).tmod 2=1:=by simpa using qA
   have hB:dW k aT=(2,[⟨ao k,ao (k.tdiv 6+1+k.tmod 6),((k.tdiv 252).tmod 4).tdiv 2 * 2,1+(k.tdiv 36).tmod 7⟩,⟨ao (k.tdiv 6+1+k.tmod 6),ao k,1,1+(aT.tdiv 6).tmod 9⟩]):=by unfold dW; simp only; rw [if_neg (by omega),if_pos (by omega),if_neg tA,if_neg qA]
   unfold kA; rw [hB]
   refine ⟨id,fun _=>cw,fun _=>cx,id,fun _=>z9,id,fun _ h=>ay h,?_⟩
   refine And.intro ?_ ?_
   ·intro iZ
    have hq:=qt iZ
    refine ⟨fun _=>cR,fun _=>cS,fun _=>z3,fun _=>s0,?_⟩
    refine ⟨fun _=>⟨Int.le_refl 0,by simp⟩,[I ((aT.tdiv 540).tmod 3 - 1)],⟨rf,tv⟩,cM ⟨ao k,ao (k.tdiv 6+1+k.tmod 6),((k.tdiv 252).tmod 4).tdiv 2 * 2,1+(k.tdiv 36).tmod 7⟩,rfl,?_⟩
    refine ⟨id,fun _=>cw,fun _=>cx,id,fun _=>z9,id,fun _ h=>ay h,?_⟩
    refine And.intro ?_ ?_
    ·intro h; exact absurd ((qt h).2.symm.trans hq.2) (by decide)
    intro _
    refine ⟨id,fun _=>cw,fun _=>cx,id,fun _=>z9,id,fun _ h=>ay h,?_⟩
    refine And.intro ?_ ?_
    ·intro h; exact absurd ((qt h).2.symm.trans hq.2) (by decide)
    intro _
    refine ⟨id,fun _=>cw,fun _=>cx,id,fun _=>z9,id,fun _ h=>ay h,?_⟩
    refine And.intro ?_ ?_
    ·intro h; exact absurd ((qt h).2.symm.trans hq.2) (by decide)
    intro _
    rw [mN hq]
    exact ⟨rf,tv⟩
   intro iZ
   refine ⟨id,fun _=>cw,fun _=>cx,id,fun _=>z9,id,fun _ h=>ay h,?_⟩
   refine And.intro ?_ ?_
   ·intro je
    have hq:=qt je
    refine ⟨fun _=>cR,fun _=>cS,fun _=>z2,fun _=>yE,fun _=>yF,?_⟩
    refine ⟨fun _=>⟨Int.le_refl 0,by simp⟩,[I (4 - (aT.tdiv 540).tmod 2 * 5)],⟨rf,tv⟩,cM ⟨ao k,ao (k.tdiv 6+1+k.tmod 6),((k.tdiv 252).tmod 4).tdiv 2 * 2,1+(k.tdiv 36).tmod 7⟩,rfl,?_⟩
    refine ⟨id,fun _=>cw,fun _=>cx,id,fun _=>z9,id,fun _ h=>ay h,?_⟩
    refine And.intro ?_ ?_
    ·intro h; exact absurd ((qt h).2.symm.trans hq.2) (by decide)
    intro _
    refine ⟨id,fun _=>cw,fun _=>cx,id,fun _=>z9,id,fun _ h=>ay h,?_⟩
    refine And.intro ?_ ?_
    ·intro h; exact absurd ((qt h).2.symm.trans hq.2) (by decide)
    intro _
    rw [mO hq]
    exact ⟨rf,tv⟩
   intro je
   refine ⟨id,fun _=>cw,fun _=>cx,id,fun _=>z9,id,fun _ h=>ay h,?_⟩
   refine And.intro ?_ ?_
   ·intro gR
    have hq:=qt gR
    refine ⟨fun _=>yG,fun _=>cR,fun _=>cS,fun _=>z3,fun _=>yH,?_⟩
    refine ⟨id,fun _=>cw,fun _=>cx,id,fun _=>z9,id,fun _ h=>ay h,?_⟩
    refine And.intro ?_ ?_
    ·intro h; exact absurd ((qt h).2.symm.trans hq.2) (by decide)
    intro _
    rw [mP hq]
    exact ⟨rf,tv⟩
   intro gR
   refine ⟨id,fun _=>cw,fun _=>cx,id,fun _=>z9,id,fun _ h=>ay h,?_⟩
   refine And.intro ?_ ?_
   ·intro ke
    have hq:=qt ke
    skip
    refine ⟨fun _=>⟨Int.le_refl 0,by simp⟩,cM ⟨ao k,ao (k.tdiv 6+1+k.tmod 6),((k.tdiv 252).tmod 4).tdiv 2 * 2,1+(k.tdiv 36).tmod 7⟩,fun _=>rfl,?_⟩
    refine ⟨fun _=>cR,fun _=>cS,fun _=>z2,fun _=>yI,fun _=>⟨by show _≤ao k - (aT.tdiv 540).tmod 2 * 1073741825; omega,by show ao k - (aT.tdiv 540).tmod 2 * 1073741825≤_; omega⟩,?_⟩
    refine ⟨fun _=>⟨Int.le_refl 0,by simp⟩,[I (ao k - (aT.tdiv 540).tmod 2 * 1073741825)],⟨rf,tv⟩,cM ⟨ao k,ao (k.tdiv 6+1+k.tmod 6),((k.tdiv 252).tmod 4).tdiv 2 * 2,1+(k.tdiv 36).tmod 7⟩,rfl,?_⟩
    refine ⟨by kernel_rfl,?_⟩
    rw [mQ hq]
    exact ⟨rf,tv⟩
   intro ke
   rw [mR (qf iZ) (qf je) (qf gR) (qf ke)]
   exact ⟨rf,tv⟩
end Go.Proofs.YtpbdohkbiklflaaGreatDoor
