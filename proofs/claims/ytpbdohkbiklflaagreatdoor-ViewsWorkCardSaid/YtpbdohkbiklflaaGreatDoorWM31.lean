import Derived.Test.YtpbdohkbiklflaaGreatDoorWM29
import Derived.Test.YtpbdohkbiklflaaGreatDoorWM30
import Derived.Test.YtpbdohkbiklflaaGreatDoorWM21
import Derived.Test.YtpbdohkbiklflaaGreatDoorWM24
set_option linter.unusedVariables false
set_option linter.unusedSimpArgs false
set_option linter.unusedSectionVars false
namespace Go.Proofs.YtpbdohkbiklflaaGreatDoor
open Go.TM
variable [cZ]
set_option maxRecDepth 100000
theorem SB (h g:Bool) (X:Vs):M4 3 0 1 (wV false h g X) (wV true h g X):=⟨_,rfl,rfl,fun j hj=>match j,hj with
 | 0,_=>.cells (.same _ (.same _ (.same _ (.same _ (.same _ (.same _ (.same _ (.same _ (.SA (nA.refl _ _ _ _))))))))))
 | 1,_=>.refl _
 | 2,_=>.refl _
 | 3,hj=>absurd rfl hj
 | 4,_=>.refl _
 | 5,_=>.refl _
 | _+6,_=>(CC.refl ao.none:CC 3 0 1 ao.none ao.none)⟩
theorem SC (f g:Bool) (X:Vs):M4 4 0 1 (wV f false g X) (wV f true g X):=⟨_,rfl,rfl,fun j hj=>match j,hj with
 | 0,_=>.cells (.same _ (.same _ (.same _ (.same _ (.same _ (.same _ (.same _ (.same _ (.same _ (.SA (nA.refl _ _ _ _)))))))))))
 | 1,_=>.refl _
 | 2,_=>.refl _
 | 3,_=>.refl _
 | 4,hj=>absurd rfl hj
 | 5,_=>.refl _
 | _+6,_=>(CC.refl ao.none:CC 4 0 1 ao.none ao.none)⟩
theorem EU {s:Vs} {S:SS} {L N:Nat} (h:KG s S L N) (hL:L+8≤500) (hN:N≤99) (st:St) (hm:st.mv.length≤4) :
  match eS s S st with
  | .err e=>bl Tryz.prog 21 [.ptr 0 0,Es st] 6 (vK false s) 9 [.dv (I e)] (vK false s)
  | .ok A=>bl Tryz.prog 21 [.ptr 0 0,Es st] 6 (vK false s) 9 [.dv (I 0)] (wV true true true (cL s S st (aI s A))):=by
 have hw:=si h hL hN st hm
 cases hq:eS s S st with
 | err e=>rw [hq] at hw; exact hw
 | ok A =>
  rw [hq] at hw
  simp only at hw ⊢
  have h1:bl Tryz.prog 21 [.ptr 0 0,Es st] 6 (vK false s) 9 [.dv (I 0)] (wV true (EH s S st) true (cL s S st (aI s A))):=by
   cases hf:fC s A with
   | true=>rw [hf] at hw; exact hw
   | false=>rw [hf] at hw; exact wx hw (by omega) (.inl ⟨rfl,rfl⟩) (SB _ _ _)
  cases hf:EH s S st with
  | true=>rw [hf] at h1; exact h1
  | false=>rw [hf] at h1; exact wx h1 (by omega) (.inl ⟨rfl,rfl⟩) (SC _ _ _)
theorem EV (coin ab aC:Int) (h:KI coin=false) (h2:EL ab aC=false):bl Tryz.prog 12 [uZ (z5 ez),.dv (I coin),.dv (I ab),.dv (I aC)] 0 [] 2 [.ptr 1 0,.dv (I 0)] [(1,.cells (jP [I 4,I coin,I ab,I aC,jF [],I 0]))]:=by
 refine bn aO mixed (aq _) (ar _) Tryz.func12 rfl rfl (by kernel_rfl) ?_
 refine .inl ⟨_,fun _=>Cu.ok,?_⟩
 refine ⟨fun h9=>by simp at h9,fun _=>?_⟩
 repeat first | refine ⟨id,?_⟩ | refine ⟨fun _ h=>cx h,?_⟩ | refine ⟨fun _ h=>ay h,?_⟩ | refine ⟨fun h=>⟨h,fun h2=>aQ h h2⟩,?_⟩ | refine ⟨fun h=>⟨h,fun h2=>aF h h2⟩,?_⟩
 obtain ⟨nm,O8⟩:=KJ ez coin
 refine ⟨_,O8,?_⟩
 repeat first | refine ⟨id,?_⟩ | refine ⟨fun _ h=>cx h,?_⟩ | refine ⟨fun _ h=>ay h,?_⟩ | refine ⟨fun h=>⟨h,fun h2=>aQ h h2⟩,?_⟩ | refine ⟨fun h=>⟨h,fun h2=>aF h h2⟩,?_⟩
 refine ⟨fun hc=>?_,fun _=>?_⟩
 ·have:KI coin=true:=hc
  rw [h] at this; cases this
 repeat first | refine ⟨id,?_⟩ | refine ⟨fun _ h=>cx h,?_⟩ | refine ⟨fun _ h=>ay h,?_⟩ | refine ⟨fun h=>⟨h,fun h2=>aQ h h2⟩,?_⟩ | refine ⟨fun h=>⟨h,fun h2=>aF h h2⟩,?_⟩
 refine ⟨fun hc=>?_,fun _=>?_⟩
 ·have:EL ab aC=true:=hc
  rw [h2] at this; cases this
 exact ⟨_,_,⟨rfl,rfl⟩,by kernel_rfl,⟨rfl,rf,tv⟩,⟨rf,rf,rf,rf,qE _,rf,tv⟩,tv⟩
def Wr (coin ab aC:Int):RV:=⟨coin,ab,aC,[],0⟩
theorem EW (coin ab aC:Int) (h:KI coin=false) (h2:EL ab aC=false):bl Tryz.prog 12 [uZ (z5 ez),.dv (I coin),.dv (I ab),.dv (I aC)] 0 [] 2 [.own 1 0 0 [],.dv (I 0)] [(1,.tree 0 0 (.cQ (P3 (Wr coin ab aC))))] :=
 CF (EV coin ab aC h h2)
end Go.Proofs.YtpbdohkbiklflaaGreatDoor
namespace Go.Proofs.YtpbdohkbiklflaaGreatDoor
open Go.TM
def lS (n m:Int):Int:=(if n<0 then -(n+1) else n).tmod m
theorem sm (n m:Int) (hm:1≤m):0≤lS n m∧lS n m<m:=by
 unfold lS
 refine ⟨Int.tmod_nonneg _ (by split <;> omega),Int.tmod_lt_of_pos _ (by omega)⟩
def bt (l:List Int) (i m:Int):Int:=if i<0 ∨ (l.length:Int)≤i then 0 else lS (l.getD i.toNat 0) m
variable [cZ]
theorem nC (n m:Int) (hn:AM n) (hm:1≤m) (Ws:m≤1000000000000):cP Tryz.prog 10 [I n,I m] [I (lS n m)]:=by
 refine bI aO mixed (aq _) (ar _) Tryz.func10 rfl (by kernel_rfl) rfl ?_
 unfold AM at hn
 refine ⟨fun h=>?_,fun h=>?_⟩
 ·have h':n<0:=of_decide_eq_true h
  refine ⟨fun _=>⟨by omega,by omega⟩,fun _=>⟨by omega,by omega⟩,fun _=>by omega,?_⟩
  exact ⟨aB (by rw [lS,if_pos h',Int.zero_sub]),tv⟩
 ·have h':¬ n<0:=of_decide_eq_false h
  refine ⟨fun _=>by omega,?_⟩
  exact ⟨aB (by rw [lS,if_neg h']),tv⟩
theorem cA (l:List Int) (i m:Int) (hl:∀x∈l,AM x) (hm:1≤m) (Ws:m≤1000000000000):cP Tryz.prog 42 [gD l,I i,I m] [I (bt l i m)]:=by
 refine bI aO mixed (aq _) (ar _) Tryz.func42 rfl (by kernel_rfl) rfl ?_
 repeat first | refine ⟨id,?_⟩ | refine ⟨fun _ h=>cx h,?_⟩ | refine ⟨fun _ h=>ay h,?_⟩ | refine ⟨fun h=>⟨h,fun h2=>aQ h h2⟩,?_⟩ | refine ⟨fun h=>⟨h,fun h2=>aF h h2⟩,?_⟩
 refine ⟨fun h=>?_,fun h=>?_⟩
 ·have h':i<0 ∨ (l.length:Int)≤i:=by
   rw [List.length_map] at h
   simpa using h
  exact ⟨aB (by rw [bt,if_pos h']),tv⟩
 ·have h':¬ (i<0 ∨ (l.length:Int)≤i):=by
   rw [List.length_map] at h
   simp at h; omega
  have hg:l[i.toNat]?=some (l.getD i.toNat 0):=by rw [List.getD_eq_getElem?_getD,List.getElem?_eq_getElem (show i.toNat<l.length by omega)]; rfl
  refine ⟨I (l.getD i.toNat 0),fun _=>⟨by omega,by rw [List.getElem?_map,hg]; rfl⟩,?_⟩
  refine .inl ⟨_,fun _=>(nC _ m (hl _ (List.mem_of_getElem? hg)) hm Ws).ok,?_⟩
  exact ⟨aB (by rw [bt,if_neg h']),tv⟩
end Go.Proofs.YtpbdohkbiklflaaGreatDoor
namespace Go.Proofs.YtpbdohkbiklflaaGreatDoor
open Go.TM
variable [cZ]
set_option maxRecDepth 100000
theorem cX (l:List Int) (i m:Int) (hm:1≤m):0≤bt l i m∧bt l i m<m:=by
 unfold bt; split
 ·omega
 ·exact sm _ m hm
def EX:List Int:=[1,2,3,4,1048577,9]
theorem CG (k:Int) (hk:0≤k):EX[(k.tmod 6).toNat]?=some (ai k):=by
 have h1:=Int.tmod_nonneg 6 hk
 have h2:=Int.tmod_lt_of_pos k (show (0:Int)<6 by omega)
 unfold ai
 rw [List.getD_eq_getElem?_getD]
 show EX[(k.tmod 6).toNat]?=some (EX[(k.tmod 6).toNat]?.getD 0)
 have h3:(k.tmod 6).toNat<EX.length:=by show _<6; omega
 rw [List.getElem?_eq_getElem h3]; rfl
theorem Gx (k:Int) (hk:0≤k):1≤ai k∧ai k≤1048577:=by
 have:=List.mem_of_getElem? (CG k hk)
 simp only [EX,List.mem_cons,List.not_mem_nil,or_false] at this
 omega
theorem bu (k:Int) (hk:0≤k):cP Tryz.prog 43 [I k] [I (ai k)]:=by
 refine bI aO mixed (aq _) (ar _) Tryz.func43 rfl (by kernel_rfl) rfl ?_
 refine .inl ⟨EX.map I,rfl,⟨rf,rf,rf,rf,rf,rf,tv⟩,(by simp [EX]; exact ⟨rfl,rfl,rfl,rfl,rfl,rfl⟩),?_⟩
 have h1:=Int.tmod_nonneg 6 hk
 refine ⟨fun _ h=>by omega,?_⟩
 refine ⟨I (ai k),fun _=>⟨h1,by rw [List.getElem?_map,CG k hk]; rfl⟩,?_⟩
 exact ⟨rf,tv⟩
def EY (f:Mv→Mv):List Mv→List Mv
 | []=>[]
 | m::r=>f m::r
def dM (k aP:Int):Int × List Mv :=
 let a:=ai k
 let b:=ai (k.tdiv 6+1+k.tmod 6)
 let n:=1+(k.tdiv 36).tmod 7
 let item:=(k.tdiv 252).tmod 4
 if aP.tmod 6=0 ∨ aP.tmod 6=1 then (0,[⟨0,a,item,3 * n⟩,⟨0,b,1,5 * n⟩]) else
 if aP.tmod 6=2 ∨ aP.tmod 6=3 then
  let b1:=if a=b then a+1 else b
  let x:Mv:=⟨a,b1,item.tdiv 2 * 2,n⟩
  let y:Mv:=⟨b1,a,1,1+(aP.tdiv 6).tmod 9⟩
  (2,if (aP.tdiv 54).tmod 2=1 then [y,x] else [x,y]) else
 if aP.tmod 6=4 then ((aP.tdiv 6).tmod 11,[⟨a,0,item,n⟩]) else
 (2,[⟨0,a,item,n⟩,⟨a,3 * a,item,n⟩,⟨3 * a,a,item,1⟩])
def wy (bad:Bool) (aP tick:Int) (s:St):St :=
 if bad=true∧(aP.tdiv 60).tmod 9=0 then { s with mv:=EY (fun m=>{ m with n:=(aP.tdiv 540).tmod 3 - 1 }) s.mv } else
 if bad=true∧(aP.tdiv 60).tmod 9=1 then { s with mv:=EY (fun m=>{ m with it:=4 - (aP.tdiv 540).tmod 2 * 5 }) s.mv } else
 if bad=true∧(aP.tdiv 60).tmod 9=2 then { s with tick:=tick - 1 - (aP.tdiv 540).tmod 3 } else
 if bad=true∧(aP.tdiv 60).tmod 9=3 then { s with mv:=EY (fun m=>{ m with t:=m.f - (aP.tdiv 540).tmod 2 * 1073741825 }) s.mv } else s
def j4 (k aP tick:Int) (bad:Bool):St:=wy bad aP tick ⟨0,(dM k aP).1,ai k,tick+(k.tdiv 1008).tmod 4,-1,0,(dM k aP).2⟩
def fN (l:List Int) (at' tick:Int) (bad:Bool):St:=j4 (bt l at' 1000000) (bt l (at'+1) 1000000) tick bad
theorem qt {bad:Bool} {q z:Int} (h:(bif bad then q == z else false)=true):bad=true∧q=z:=by
 obtain ⟨h1,h2⟩:=BZ h; exact ⟨h1,by simpa using h2⟩
theorem qf {bad:Bool} {q z:Int} (h:(bif bad then q == z else false)=false):¬ (bad=true∧q=z):=fun h9=>B0 h ⟨h9.1,by simpa using h9.2⟩
theorem mc {bad:Bool} {aP tick:Int} {s:St} (h:bad=true∧(aP.tdiv 60).tmod 9=0):wy bad aP tick s={ s with mv:=EY (fun m=>{ m with n:=(aP.tdiv 540).tmod 3 - 1 }) s.mv }:=if_pos h
theorem me {bad:Bool} {aP tick:Int} {s:St} (h:bad=true∧(aP.tdiv 60).tmod 9=1):wy bad aP tick s={ s with mv:=EY (fun m=>{ m with it:=4 - (aP.tdiv 540).tmod 2 * 5 }) s.mv }:=by
 unfold wy; rw [if_neg (fun h9=>absurd (h9.2.symm.trans h.2) (by decide)),if_pos h]
theorem mf {bad:Bool} {aP tick:Int} {s:St} (h:bad=true∧(aP.tdiv 60).tmod 9=2):wy bad aP tick s={ s with tick:=tick - 1 - (aP.tdiv 540).tmod 3 }:=by
 unfold wy; rw [if_neg (fun h9=>absurd (h9.2.symm.trans h.2) (by decide)),if_neg (fun h9=>absurd (h9.2.symm.trans h.2) (by decide)),if_pos h]
theorem mg {bad:Bool} {aP tick:Int} {s:St} (h:bad=true∧(aP.tdiv 60).tmod 9=3):wy bad aP tick s={ s with mv:=EY (fun m=>{ m with t:=m.f - (aP.tdiv 540).tmod 2 * 1073741825 }) s.mv }:=by
 unfold wy; rw [if_neg (fun h9=>absurd (h9.2.symm.trans h.2) (by decide)),if_neg (fun h9=>absurd (h9.2.symm.trans h.2) (by decide)),if_neg (fun h9=>absurd (h9.2.symm.trans h.2) (by decide)),if_pos h]
theorem mi {bad:Bool} {aP tick:Int} {s:St} (h0:¬ (bad=true∧(aP.tdiv 60).tmod 9=0)) (h1:¬ (bad=true∧(aP.tdiv 60).tmod 9=1)) (h2:¬ (bad=true∧(aP.tdiv 60).tmod 9=2)) (h3:¬ (bad=true∧(aP.tdiv 60).tmod 9=3)):wy bad aP tick s=s:=by
 unfold wy; rw [if_neg h0,if_neg h1,if_neg h2,if_neg h3]
theorem qZ {x z:Int} (h:(x == z)=true):x=z:=by simpa using h
theorem pH {x z:Int} (h:(x == z)=false):¬ x=z:=by simpa using h
theorem td {k aP tick:Int} (k0:0≤k) (k1:k<1000000) (w0:0≤aP) (w1:aP<1000000) (ht:0≤tick∧tick≤1099511627776):0≤k.tdiv 6∧0≤k.tdiv 36∧0≤k.tdiv 252∧0≤k.tdiv 1008∧k.tdiv 6≤k∧k.tdiv 36≤k∧k.tdiv 252≤k∧k.tdiv 1008≤k∧0≤k.tmod 6∧k.tmod 6<6∧0≤(k.tdiv 36).tmod 7∧(k.tdiv 36).tmod 7<7∧0≤(k.tdiv 252).tmod 4∧(k.tdiv 252).tmod 4<4∧0≤(k.tdiv 1008).tmod 4∧(k.tdiv 1008).tmod 4<4∧0≤aP.tdiv 6∧0≤aP.tdiv 54∧0≤aP.tdiv 60∧0≤aP.tdiv 540∧aP.tdiv 6≤aP∧aP.tdiv 54≤aP∧aP.tdiv 60≤aP∧aP.tdiv 540≤aP∧0≤(aP.tdiv 6).tmod 9∧(aP.tdiv 6).tmod 9<9∧0≤(aP.tdiv 6).tmod 11∧(aP.tdiv 6).tmod 11<11∧0≤(aP.tdiv 540).tmod 3∧(aP.tdiv 540).tmod 3<3∧0≤(aP.tdiv 540).tmod 2∧(aP.tdiv 540).tmod 2<2∧0≤((k.tdiv 252).tmod 4).tdiv 2∧((k.tdiv 252).tmod 4).tdiv 2≤(k.tdiv 252).tmod 4∧(1≤ai k∧ai k≤1048577)∧(1≤ai (k.tdiv 6+1+k.tmod 6)∧ai (k.tdiv 6+1+k.tmod 6)≤1048577)∧((60:Int)=0→False)∧((540:Int)=0→False)∧((54:Int)=0→False)∧((9:Int)=0→False)∧((6:Int)=0→False)∧((11:Int)=0→False)∧((3:Int)=0→False)∧((2:Int)=0→False)∧(-9223372036854775808≤aP.tdiv 60∧aP.tdiv 60≤9223372036854775807)∧(-9223372036854775808≤aP.tdiv 540∧aP.tdiv 540≤9223372036854775807)∧(-9223372036854775808≤aP.tdiv 54∧aP.tdiv 54≤9223372036854775807)∧(-9223372036854775808≤aP.tdiv 6∧aP.tdiv 6≤9223372036854775807)∧(-9223372036854775808≤(aP.tdiv 540).tmod 3 - 1∧(aP.tdiv 540).tmod 3 - 1≤9223372036854775807)∧(-9223372036854775808≤(aP.tdiv 540).tmod 2 * 5∧(aP.tdiv 540).tmod 2 * 5≤9223372036854775807)∧(-9223372036854775808≤4 - (aP.tdiv 540).tmod 2 * 5∧4 - (aP.tdiv 540).tmod 2 * 5≤9223372036854775807)∧(-9223372036854775808≤tick - 1∧tick - 1≤9223372036854775807)∧(-9223372036854775808≤tick - 1 - (aP.tdiv 540).tmod 3∧tick - 1 - (aP.tdiv 540).tmod 3≤9223372036854775807)∧(-9223372036854775808≤(aP.tdiv 540).tmod 2 * 1073741825∧(aP.tdiv 540).tmod 2 * 1073741825≤9223372036854775807)∧(-9223372036854775808≤3 * (1+(k.tdiv 36).tmod 7)∧3 * (1+(k.tdiv 36).tmod 7)≤9223372036854775807)∧(-9223372036854775808≤5 * (1+(k.tdiv 36).tmod 7)∧5 * (1+(k.tdiv 36).tmod 7)≤9223372036854775807)∧(-9223372036854775808≤ai k+1∧ai k+1≤9223372036854775807)∧(-9223372036854775808≤((k.tdiv 252).tmod 4).tdiv 2∧((k.tdiv 252).tmod 4).tdiv 2≤9223372036854775807)∧(-9223372036854775808≤((k.tdiv 252).tmod 4).tdiv 2 * 2∧((k.tdiv 252).tmod 4).tdiv 2 * 2≤9223372036854775807)∧(-9223372036854775808≤1+(aP.tdiv 6).tmod 9∧1+(aP.tdiv 6).tmod 9≤9223372036854775807)∧(-9223372036854775808≤3 * ai k∧3 * ai k≤9223372036854775807):=by
 have d6:=Int.tdiv_nonneg k0 (show (0:Int)≤6 by omega)
 have d36:=Int.tdiv_nonneg k0 (show (0:Int)≤36 by omega)
 have my:=Int.tdiv_nonneg k0 (show (0:Int)≤252 by omega)
 have gH:=Int.tdiv_nonneg k0 (show (0:Int)≤1008 by omega)
 have e6:=Int.tdiv_le_self (a:=k) 6 k0
 have CH:=Int.tdiv_le_self (a:=k) 36 k0
 have nD:=Int.tdiv_le_self (a:=k) 252 k0
 have im:=Int.tdiv_le_self (a:=k) 1008 k0
 have m6:=Int.tmod_nonneg 6 k0
 have M6:=Int.tmod_lt_of_pos k (show (0:Int)<6 by omega)
 have m7:=Int.tmod_nonneg 7 d36
 have M7:=Int.tmod_lt_of_pos (k.tdiv 36) (show (0:Int)<7 by omega)
 have m4:=Int.tmod_nonneg 4 my
 have M8:=Int.tmod_lt_of_pos (k.tdiv 252) (show (0:Int)<4 by omega)
 have n4:=Int.tmod_nonneg 4 gH
 have M9:=Int.tmod_lt_of_pos (k.tdiv 1008) (show (0:Int)<4 by omega)
 have f6:=Int.tdiv_nonneg w0 (show (0:Int)≤6 by omega)
 have f54:=Int.tdiv_nonneg w0 (show (0:Int)≤54 by omega)
 have f60:=Int.tdiv_nonneg w0 (show (0:Int)≤60 by omega)
 have lT:=Int.tdiv_nonneg w0 (show (0:Int)≤540 by omega)
 have g6:=Int.tdiv_le_self (a:=aP) 6 w0
 have CI:=Int.tdiv_le_self (a:=aP) 54 w0
 have CJ:=Int.tdiv_le_self (a:=aP) 60 w0
 have nE:=Int.tdiv_le_self (a:=aP) 540 w0
 have h9:=Int.tmod_nonneg 9 f6
 have Na:=Int.tmod_lt_of_pos (aP.tdiv 6) (show (0:Int)<9 by omega)
 have B3:=Int.tmod_nonneg 11 f6
 have Aw:=Int.tmod_lt_of_pos (aP.tdiv 6) (show (0:Int)<11 by omega)
 have h3:=Int.tmod_nonneg 3 lT
 have It:=Int.tmod_lt_of_pos (aP.tdiv 540) (show (0:Int)<3 by omega)
 have h2:=Int.tmod_nonneg 2 lT
 have Dg:=Int.tmod_lt_of_pos (aP.tdiv 540) (show (0:Int)<2 by omega)
 have i2:=Int.tdiv_nonneg m4 (show (0:Int)≤2 by omega)
 have Nb:=Int.tdiv_le_self (a:=(k.tdiv 252).tmod 4) 2 m4
 have ba:=Gx k k0
 have bb:=Gx (k.tdiv 6+1+k.tmod 6) (by omega)
 have cq:(60:Int)=0→False:=by decide
 have cG:(540:Int)=0→False:=by decide
 have Nc:(54:Int)=0→False:=by decide
 have z9:(9:Int)=0→False:=by decide
 have z6:(6:Int)=0→False:=by decide
 have Nd:(11:Int)=0→False:=by decide
 have z3:(3:Int)=0→False:=by decide
 have z2:(2:Int)=0→False:=by decide
 have cr:-9223372036854775808≤aP.tdiv 60∧aP.tdiv 60≤9223372036854775807:=by omega
 have cH:-9223372036854775808≤aP.tdiv 540∧aP.tdiv 540≤9223372036854775807:=by omega
 have Nf:-9223372036854775808≤aP.tdiv 54∧aP.tdiv 54≤9223372036854775807:=by omega
 have o6:-9223372036854775808≤aP.tdiv 6∧aP.tdiv 6≤9223372036854775807:=by omega
 have s0:-9223372036854775808≤(aP.tdiv 540).tmod 3 - 1∧(aP.tdiv 540).tmod 3 - 1≤9223372036854775807:=by omega
 have xp:-9223372036854775808≤(aP.tdiv 540).tmod 2 * 5∧(aP.tdiv 540).tmod 2 * 5≤9223372036854775807:=by omega
 have xq:-9223372036854775808≤4 - (aP.tdiv 540).tmod 2 * 5∧4 - (aP.tdiv 540).tmod 2 * 5≤9223372036854775807:=by omega
 have xt:-9223372036854775808≤tick - 1∧tick - 1≤9223372036854775807:=by omega
 have xu:-9223372036854775808≤tick - 1 - (aP.tdiv 540).tmod 3∧tick - 1 - (aP.tdiv 540).tmod 3≤9223372036854775807:=by omega
 have xw:-9223372036854775808≤(aP.tdiv 540).tmod 2 * 1073741825∧(aP.tdiv 540).tmod 2 * 1073741825≤9223372036854775807:=by omega
 have b3:-9223372036854775808≤3 * (1+(k.tdiv 36).tmod 7)∧3 * (1+(k.tdiv 36).tmod 7)≤9223372036854775807:=by omega
 have b5:-9223372036854775808≤5 * (1+(k.tdiv 36).tmod 7)∧5 * (1+(k.tdiv 36).tmod 7)≤9223372036854775807:=by omega
 have Ng:-9223372036854775808≤ai k+1∧ai k+1≤9223372036854775807:=by omega
 have Nh:-9223372036854775808≤((k.tdiv 252).tmod 4).tdiv 2∧((k.tdiv 252).tmod 4).tdiv 2≤9223372036854775807:=by omega
 have Ni:-9223372036854775808≤((k.tdiv 252).tmod 4).tdiv 2 * 2∧((k.tdiv 252).tmod 4).tdiv 2 * 2≤9223372036854775807:=by omega
 have b9:-9223372036854775808≤1+(aP.tdiv 6).tmod 9∧1+(aP.tdiv 6).tmod 9≤9223372036854775807:=by omega
 have Nj:-9223372036854775808≤3 * ai k∧3 * ai k≤9223372036854775807:=by omega
 exact ⟨d6,d36,my,gH,e6,CH,nD,im,m6,M6,m7,M7,m4,M8,n4,M9,f6,f54,f60,lT,g6,CI,CJ,nE,h9,Na,B3,Aw,h3,It,h2,Dg,i2,Nb,ba,bb,cq,cG,Nc,z9,z6,Nd,z3,z2,cr,cH,Nf,o6,s0,xp,xq,xt,xu,xw,b3,b5,Ng,Nh,Ni,b9,Nj⟩
end Go.Proofs.YtpbdohkbiklflaaGreatDoor
namespace Go.Proofs.YtpbdohkbiklflaaGreatDoor
open Go.TM
variable [cZ]
set_option maxRecDepth 100000
set_option maxHeartbeats 4000000 in
theorem Nl (l:List Int) (hl:∀x∈l,AM x) (at' tick:Int) (bad:Bool) (ha:0≤at'∧at'≤1000000) (ht:0≤tick∧tick≤1099511627776) (hc:(bt l (at'+1) 1000000).tmod 6=0):cP Tryz.prog 19 [gD l,I at',I tick,B bad] [gG (fN l at' tick bad)]:=by
 refine bI aO mixed (aq _) (ar _) Tryz.func19 rfl (by kernel_rfl) rfl ?_
 have BT:=cA l at' 1000000 hl (by omega) (by omega)
 have pB:=cA l (at'+1) 1000000 hl (by omega) (by omega)
 obtain ⟨k0,k1⟩:=cX l at' 1000000 (by omega)
 obtain ⟨w0,w1⟩:=cX l (at'+1) 1000000 (by omega)
 refine .inl ⟨_,fun _=>BT.ok,?_⟩
 unfold fN
 generalize bt l at' 1000000=k at *
 generalize bt l (at'+1) 1000000=aP at *
 obtain ⟨d6,d36,my,gH,e6,CH,nD,im,m6,M6,m7,M7,m4,M8,n4,M9,f6,f54,f60,lT,g6,CI,CJ,nE,h9,Na,B3,Aw,h3,It,h2,Dg,i2,Nb,ba,bb,cq,cG,Nc,z9,z6,Nd,z3,z2,cr,cH,Nf,o6,s0,xp,xq,xt,xu,xw,b3,b5,Ng,Nh,Ni,b9,Nj⟩:=td k0 k1 w0 w1 ht
 refine .inl ⟨_,fun _=>(bu k k0).ok,?_⟩
 repeat first | refine ⟨fun _=>⟨by omega,by omega⟩,?_⟩ | refine ⟨fun _ h=>by omega,?_⟩
 refine .inl ⟨_,fun _=>(bu (k.tdiv 6+1+k.tmod 6) (by omega)).ok,?_⟩
 repeat first | refine ⟨fun _=>⟨by omega,by omega⟩,?_⟩ | refine ⟨fun _ h=>by omega,?_⟩
 refine .inl ⟨_,fun _=>pB.ok,?_⟩
 repeat first | refine ⟨fun _=>⟨by omega,by omega⟩,?_⟩ | refine ⟨fun _ h=>by omega,?_⟩
 clear e6 CH nD im g6 CI CJ nE d6 d36 my gH f6 f54 f60 lT
 refine And.intro ?_ (fun h=>absurd hc (pH h))
 intro c0
 have c0:=qZ c0
 refine And.intro ?_ (fun h=>absurd c0 (pH h))
 intro _
 have hB:dM k aP=(0,[⟨0,ai k,(k.tdiv 252).tmod 4,3 * (1+(k.tdiv 36).tmod 7)⟩,⟨0,ai (k.tdiv 6+1+k.tmod 6),1,5 * (1+(k.tdiv 36).tmod 7)⟩]):=by unfold dM; simp only; rw [if_pos (by omega)]
 repeat refine ⟨fun _=>by assumption,?_⟩
 refine Or.inr ?_
 refine Or.inl ?_
 refine ⟨[bR ⟨0,ai k,(k.tdiv 252).tmod 4,3 * (1+(k.tdiv 36).tmod 7)⟩,bR ⟨0,ai (k.tdiv 6+1+k.tmod 6),1,5 * (1+(k.tdiv 36).tmod 7)⟩],rfl,⟨rf,rf,rf,rf,rf,rf,rf,rf,rf,rf,tv⟩,(by simp; exact ⟨rfl,rfl⟩),?_⟩
 unfold j4; rw [hB]
 refine ⟨id,fun _=>cq,fun _=>cr,id,fun _=>z9,id,fun _ h=>ay h,?_⟩
 refine And.intro ?_ ?_
 ·intro iE
  have hq:=qt iE
  refine ⟨fun _=>cG,fun _=>cH,fun _=>z3,fun _=>s0,?_⟩
  refine ⟨fun _=>⟨Int.le_refl 0,by simp⟩,[I ((aP.tdiv 540).tmod 3 - 1)],⟨rf,tv⟩,bR ⟨0,ai k,(k.tdiv 252).tmod 4,3 * (1+(k.tdiv 36).tmod 7)⟩,rfl,?_⟩
  refine ⟨id,fun _=>cq,fun _=>cr,id,fun _=>z9,id,fun _ h=>ay h,?_⟩
  refine And.intro ?_ ?_
  ·intro h; exact absurd ((qt h).2.symm.trans hq.2) (by decide)
  intro _
  refine ⟨id,fun _=>cq,fun _=>cr,id,fun _=>z9,id,fun _ h=>ay h,?_⟩
  refine And.intro ?_ ?_
  ·intro h; exact absurd ((qt h).2.symm.trans hq.2) (by decide)
  intro _
  refine ⟨id,fun _=>cq,fun _=>cr,id,fun _=>z9,id,fun _ h=>ay h,?_⟩
  refine And.intro ?_ ?_
  ·intro h; exact absurd ((qt h).2.symm.trans hq.2) (by decide)
  intro _
  rw [mc hq]
  exact ⟨rf,tv⟩
 intro iE
 refine ⟨id,fun _=>cq,fun _=>cr,id,fun _=>z9,id,fun _ h=>ay h,?_⟩
 refine And.intro ?_ ?_
 ·intro iK
  have hq:=qt iK
  refine ⟨fun _=>cG,fun _=>cH,fun _=>z2,fun _=>xp,fun _=>xq,?_⟩
  refine ⟨fun _=>⟨Int.le_refl 0,by simp⟩,[I (4 - (aP.tdiv 540).tmod 2 * 5)],⟨rf,tv⟩,bR ⟨0,ai k,(k.tdiv 252).tmod 4,3 * (1+(k.tdiv 36).tmod 7)⟩,rfl,?_⟩
  refine ⟨id,fun _=>cq,fun _=>cr,id,fun _=>z9,id,fun _ h=>ay h,?_⟩
  refine And.intro ?_ ?_
  ·intro h; exact absurd ((qt h).2.symm.trans hq.2) (by decide)
  intro _
  refine ⟨id,fun _=>cq,fun _=>cr,id,fun _=>z9,id,fun _ h=>ay h,?_⟩
  refine And.intro ?_ ?_
  ·intro h; exact absurd ((qt h).2.symm.trans hq.2) (by decide)
  intro _
  rw [me hq]
  exact ⟨rf,tv⟩
 intro iK
 refine ⟨id,fun _=>cq,fun _=>cr,id,fun _=>z9,id,fun _ h=>ay h,?_⟩
 refine And.intro ?_ ?_
 ·intro gz
  have hq:=qt gz
  refine ⟨fun _=>xt,fun _=>cG,fun _=>cH,fun _=>z3,fun _=>xu,?_⟩
  refine ⟨id,fun _=>cq,fun _=>cr,id,fun _=>z9,id,fun _ h=>ay h,?_⟩
  refine And.intro ?_ ?_
  ·intro h; exact absurd ((qt h).2.symm.trans hq.2) (by decide)
  intro _
  rw [mf hq]
  exact ⟨rf,tv⟩
 intro gz
 refine ⟨id,fun _=>cq,fun _=>cr,id,fun _=>z9,id,fun _ h=>ay h,?_⟩
 refine And.intro ?_ ?_
 ·intro jM
  have hq:=qt jM
  skip
  refine ⟨fun _=>⟨Int.le_refl 0,by simp⟩,bR ⟨0,ai k,(k.tdiv 252).tmod 4,3 * (1+(k.tdiv 36).tmod 7)⟩,fun _=>rfl,?_⟩
  refine ⟨fun _=>cG,fun _=>cH,fun _=>z2,fun _=>xw,fun _=>⟨by show _≤0 - (aP.tdiv 540).tmod 2 * 1073741825; omega,by show 0 - (aP.tdiv 540).tmod 2 * 1073741825≤_; omega⟩,?_⟩
  refine ⟨fun _=>⟨Int.le_refl 0,by simp⟩,[I (0 - (aP.tdiv 540).tmod 2 * 1073741825)],⟨rf,tv⟩,bR ⟨0,ai k,(k.tdiv 252).tmod 4,3 * (1+(k.tdiv 36).tmod 7)⟩,rfl,?_⟩
  refine ⟨by kernel_rfl,?_⟩
  rw [mg hq]
  exact ⟨rf,tv⟩
 intro jM
 rw [mi (qf iE) (qf iK) (qf gz) (qf jM)]
 exact ⟨rf,tv⟩
set_option maxHeartbeats 4000000 in
theorem Nm (l:List Int) (hl:∀x∈l,AM x) (at' tick:Int) (bad:Bool) (ha:0≤at'∧at'≤1000000) (ht:0≤tick∧tick≤1099511627776) (hc:(bt l (at'+1) 1000000).tmod 6=1):cP Tryz.prog 19 [gD l,I at',I tick,B bad] [gG (fN l at' tick bad)]:=by
 refine bI aO mixed (aq _) (ar _) Tryz.func19 rfl (by kernel_rfl) rfl ?_
 have BT:=cA l at' 1000000 hl (by omega) (by omega)
 have pB:=cA l (at'+1) 1000000 hl (by omega) (by omega)
 obtain ⟨k0,k1⟩:=cX l at' 1000000 (by omega)
 obtain ⟨w0,w1⟩:=cX l (at'+1) 1000000 (by omega)
 refine .inl ⟨_,fun _=>BT.ok,?_⟩
 unfold fN
 generalize bt l at' 1000000=k at *
 generalize bt l (at'+1) 1000000=aP at *
 obtain ⟨d6,d36,my,gH,e6,CH,nD,im,m6,M6,m7,M7,m4,M8,n4,M9,f6,f54,f60,lT,g6,CI,CJ,nE,h9,Na,B3,Aw,h3,It,h2,Dg,i2,Nb,ba,bb,cq,cG,Nc,z9,z6,Nd,z3,z2,cr,cH,Nf,o6,s0,xp,xq,xt,xu,xw,b3,b5,Ng,Nh,Ni,b9,Nj⟩:=td k0 k1 w0 w1 ht
 refine .inl ⟨_,fun _=>(bu k k0).ok,?_⟩
 repeat first | refine ⟨fun _=>⟨by omega,by omega⟩,?_⟩ | refine ⟨fun _ h=>by omega,?_⟩
 refine .inl ⟨_,fun _=>(bu (k.tdiv 6+1+k.tmod 6) (by omega)).ok,?_⟩
 repeat first | refine ⟨fun _=>⟨by omega,by omega⟩,?_⟩ | refine ⟨fun _ h=>by omega,?_⟩
 refine .inl ⟨_,fun _=>pB.ok,?_⟩
 repeat first | refine ⟨fun _=>⟨by omega,by omega⟩,?_⟩ | refine ⟨fun _ h=>by omega,?_⟩
 clear e6 CH nD im g6 CI CJ nE d6 d36 my gH f6 f54 f60 lT
 refine And.intro (fun h=>absurd ((qZ h).symm.trans hc) (by decide)) ?_
 intro c0
 have c0:=pH c0
 refine And.intro ?_ (fun h=>absurd hc (pH h))
 intro c1
 have c1:=qZ c1
 have hB:dM k aP=(0,[⟨0,ai k,(k.tdiv 252).tmod 4,3 * (1+(k.tdiv 36).tmod 7)⟩,⟨0,ai (k.tdiv 6+1+k.tmod 6),1,5 * (1+(k.tdiv 36).tmod 7)⟩]):=by unfold dM; simp only; rw [if_pos (by omega)]
 repeat refine ⟨fun _=>by assumption,?_⟩
 refine Or.inr ?_
 refine Or.inl ?_
 refine ⟨[bR ⟨0,ai k,(k.tdiv 252).tmod 4,3 * (1+(k.tdiv 36).tmod 7)⟩,bR ⟨0,ai (k.tdiv 6+1+k.tmod 6),1,5 * (1+(k.tdiv 36).tmod 7)⟩],rfl,⟨rf,rf,rf,rf,rf,rf,rf,rf,rf,rf,tv⟩,(by simp; exact ⟨rfl,rfl⟩),?_⟩
 unfold j4; rw [hB]
 refine ⟨id,fun _=>cq,fun _=>cr,id,fun _=>z9,id,fun _ h=>ay h,?_⟩
 refine And.intro ?_ ?_
 ·intro iE
  have hq:=qt iE
  refine ⟨fun _=>cG,fun _=>cH,fun _=>z3,fun _=>s0,?_⟩
  refine ⟨fun _=>⟨Int.le_refl 0,by simp⟩,[I ((aP.tdiv 540).tmod 3 - 1)],⟨rf,tv⟩,bR ⟨0,ai k,(k.tdiv 252).tmod 4,3 * (1+(k.tdiv 36).tmod 7)⟩,rfl,?_⟩
  refine ⟨id,fun _=>cq,fun _=>cr,id,fun _=>z9,id,fun _ h=>ay h,?_⟩
  refine And.intro ?_ ?_
  ·intro h; exact absurd ((qt h).2.symm.trans hq.2) (by decide)
  intro _
  refine ⟨id,fun _=>cq,fun _=>cr,id,fun _=>z9,id,fun _ h=>ay h,?_⟩
  refine And.intro ?_ ?_
  ·intro h; exact absurd ((qt h).2.symm.trans hq.2) (by decide)
  intro _
  refine ⟨id,fun _=>cq,fun _=>cr,id,fun _=>z9,id,fun _ h=>ay h,?_⟩
  refine And.intro ?_ ?_
  ·intro h; exact absurd ((qt h).2.symm.trans hq.2) (by decide)
  intro _
  rw [mc hq]
  exact ⟨rf,tv⟩
 intro iE
 refine ⟨id,fun _=>cq,fun _=>cr,id,fun _=>z9,id,fun _ h=>ay h,?_⟩
 refine And.intro ?_ ?_
 ·intro iK
  have hq:=qt iK
  refine ⟨fun _=>cG,fun _=>cH,fun _=>z2,fun _=>xp,fun _=>xq,?_⟩
  refine ⟨fun _=>⟨Int.le_refl 0,by simp⟩,[I (4 - (aP.tdiv 540).tmod 2 * 5)],⟨rf,tv⟩,bR ⟨0,ai k,(k.tdiv 252).tmod 4,3 * (1+(k.tdiv 36).tmod 7)⟩,rfl,?_⟩
  refine ⟨id,fun _=>cq,fun _=>cr,id,fun _=>z9,id,fun _ h=>ay h,?_⟩
  refine And.intro ?_ ?_
  ·intro h; exact absurd ((qt h).2.symm.trans hq.2) (by decide)
  intro _
  refine ⟨id,fun _=>cq,fun _=>cr,id,fun _=>z9,id,fun _ h=>ay h,?_⟩
  refine And.intro ?_ ?_
  ·intro h; exact absurd ((qt h).2.symm.trans hq.2) (by decide)
  intro _
  rw [me hq]
  exact ⟨rf,tv⟩
 intro iK
 refine ⟨id,fun _=>cq,fun _=>cr,id,fun _=>z9,id,fun _ h=>ay h,?_⟩
 refine And.intro ?_ ?_
 ·intro gz
  have hq:=qt gz
  refine ⟨fun _=>xt,fun _=>cG,fun _=>cH,fun _=>z3,fun _=>xu,?_⟩
  refine ⟨id,fun _=>cq,fun _=>cr,id,fun _=>z9,id,fun _ h=>ay h,?_⟩
  refine And.intro ?_ ?_
  ·intro h; exact absurd ((qt h).2.symm.trans hq.2) (by decide)
  intro _
  rw [mf hq]
  exact ⟨rf,tv⟩
 intro gz
 refine ⟨id,fun _=>cq,fun _=>cr,id,fun _=>z9,id,fun _ h=>ay h,?_⟩
 refine And.intro ?_ ?_
 ·intro jM
  have hq:=qt jM
  skip
  refine ⟨fun _=>⟨Int.le_refl 0,by simp⟩,bR ⟨0,ai k,(k.tdiv 252).tmod 4,3 * (1+(k.tdiv 36).tmod 7)⟩,fun _=>rfl,?_⟩
  refine ⟨fun _=>cG,fun _=>cH,fun _=>z2,fun _=>xw,fun _=>⟨by show _≤0 - (aP.tdiv 540).tmod 2 * 1073741825; omega,by show 0 - (aP.tdiv 540).tmod 2 * 1073741825≤_; omega⟩,?_⟩
  refine ⟨fun _=>⟨Int.le_refl 0,by simp⟩,[I (0 - (aP.tdiv 540).tmod 2 * 1073741825)],⟨rf,tv⟩,bR ⟨0,ai k,(k.tdiv 252).tmod 4,3 * (1+(k.tdiv 36).tmod 7)⟩,rfl,?_⟩
  refine ⟨by kernel_rfl,?_⟩
  rw [mg hq]
  exact ⟨rf,tv⟩
 intro jM
 rw [mi (qf iE) (qf iK) (qf gz) (qf jM)]
 exact ⟨rf,tv⟩
end Go.Proofs.YtpbdohkbiklflaaGreatDoor
namespace Go.Proofs.YtpbdohkbiklflaaGreatDoor
open Go.TM
variable [cZ]
set_option maxRecDepth 100000
set_option maxHeartbeats 4000000 in
theorem Nn (l:List Int) (hl:∀x∈l,AM x) (at' tick:Int) (bad:Bool) (ha:0≤at'∧at'≤1000000) (ht:0≤tick∧tick≤1099511627776) (hc:(bt l (at'+1) 1000000).tmod 6=4):cP Tryz.prog 19 [gD l,I at',I tick,B bad] [gG (fN l at' tick bad)]:=by
 refine bI aO mixed (aq _) (ar _) Tryz.func19 rfl (by kernel_rfl) rfl ?_
 have BT:=cA l at' 1000000 hl (by omega) (by omega)
 have pB:=cA l (at'+1) 1000000 hl (by omega) (by omega)
 obtain ⟨k0,k1⟩:=cX l at' 1000000 (by omega)
 obtain ⟨w0,w1⟩:=cX l (at'+1) 1000000 (by omega)
 refine .inl ⟨_,fun _=>BT.ok,?_⟩
 unfold fN
 generalize bt l at' 1000000=k at *
 generalize bt l (at'+1) 1000000=aP at *
 obtain ⟨d6,d36,my,gH,e6,CH,nD,im,m6,M6,m7,M7,m4,M8,n4,M9,f6,f54,f60,lT,g6,CI,CJ,nE,h9,Na,B3,Aw,h3,It,h2,Dg,i2,Nb,ba,bb,cq,cG,Nc,z9,z6,Nd,z3,z2,cr,cH,Nf,o6,s0,xp,xq,xt,xu,xw,b3,b5,Ng,Nh,Ni,b9,Nj⟩:=td k0 k1 w0 w1 ht
 refine .inl ⟨_,fun _=>(bu k k0).ok,?_⟩
 repeat first | refine ⟨fun _=>⟨by omega,by omega⟩,?_⟩ | refine ⟨fun _ h=>by omega,?_⟩
 refine .inl ⟨_,fun _=>(bu (k.tdiv 6+1+k.tmod 6) (by omega)).ok,?_⟩
 repeat first | refine ⟨fun _=>⟨by omega,by omega⟩,?_⟩ | refine ⟨fun _ h=>by omega,?_⟩
 refine .inl ⟨_,fun _=>pB.ok,?_⟩
 repeat first | refine ⟨fun _=>⟨by omega,by omega⟩,?_⟩ | refine ⟨fun _ h=>by omega,?_⟩
 clear e6 CH nD im g6 CI CJ nE d6 d36 my gH f6 f54 f60 lT
 refine And.intro (fun h=>absurd ((qZ h).symm.trans hc) (by decide)) ?_
 intro c0
 have c0:=pH c0
 refine And.intro (fun h=>absurd ((qZ h).symm.trans hc) (by decide)) ?_
 intro c1
 have c1:=pH c1
 refine And.intro (fun h=>absurd ((qZ h).symm.trans hc) (by decide)) ?_
 intro c2
 have c2:=pH c2
 refine And.intro (fun h=>absurd ((qZ h).symm.trans hc) (by decide)) ?_
 intro c3
 have c3:=pH c3
 refine And.intro ?_ (fun h=>absurd hc (pH h))
 intro c4
 have c4:=qZ c4
 have hB:dM k aP=((aP.tdiv 6).tmod 11,[⟨ai k,0,(k.tdiv 252).tmod 4,1+(k.tdiv 36).tmod 7⟩]):=by unfold dM; simp only; rw [if_neg (by omega),if_neg (by omega),if_pos (by omega)]
 repeat refine ⟨fun _=>by assumption,?_⟩
 refine Or.inr ?_
 refine Or.inl ?_
 refine ⟨[bR ⟨ai k,0,(k.tdiv 252).tmod 4,1+(k.tdiv 36).tmod 7⟩],rfl,⟨rf,rf,rf,rf,rf,tv⟩,(by simp; rfl),?_⟩
 unfold j4; rw [hB]
 refine ⟨id,fun _=>cq,fun _=>cr,id,fun _=>z9,id,fun _ h=>ay h,?_⟩
 refine And.intro ?_ ?_
 ·intro iE
  have hq:=qt iE
  refine ⟨fun _=>cG,fun _=>cH,fun _=>z3,fun _=>s0,?_⟩
  refine ⟨fun _=>⟨Int.le_refl 0,by simp⟩,[I ((aP.tdiv 540).tmod 3 - 1)],⟨rf,tv⟩,bR ⟨ai k,0,(k.tdiv 252).tmod 4,1+(k.tdiv 36).tmod 7⟩,rfl,?_⟩
  refine ⟨id,fun _=>cq,fun _=>cr,id,fun _=>z9,id,fun _ h=>ay h,?_⟩
  refine And.intro ?_ ?_
  ·intro h; exact absurd ((qt h).2.symm.trans hq.2) (by decide)
  intro _
  refine ⟨id,fun _=>cq,fun _=>cr,id,fun _=>z9,id,fun _ h=>ay h,?_⟩
  refine And.intro ?_ ?_
  ·intro h; exact absurd ((qt h).2.symm.trans hq.2) (by decide)
  intro _
  refine ⟨id,fun _=>cq,fun _=>cr,id,fun _=>z9,id,fun _ h=>ay h,?_⟩
  refine And.intro ?_ ?_
  ·intro h; exact absurd ((qt h).2.symm.trans hq.2) (by decide)
  intro _
  rw [mc hq]
  exact ⟨rf,tv⟩
 intro iE
 refine ⟨id,fun _=>cq,fun _=>cr,id,fun _=>z9,id,fun _ h=>ay h,?_⟩
 refine And.intro ?_ ?_
 ·intro iK
  have hq:=qt iK
  refine ⟨fun _=>cG,fun _=>cH,fun _=>z2,fun _=>xp,fun _=>xq,?_⟩
  refine ⟨fun _=>⟨Int.le_refl 0,by simp⟩,[I (4 - (aP.tdiv 540).tmod 2 * 5)],⟨rf,tv⟩,bR ⟨ai k,0,(k.tdiv 252).tmod 4,1+(k.tdiv 36).tmod 7⟩,rfl,?_⟩
  refine ⟨id,fun _=>cq,fun _=>cr,id,fun _=>z9,id,fun _ h=>ay h,?_⟩
  refine And.intro ?_ ?_
  ·intro h; exact absurd ((qt h).2.symm.trans hq.2) (by decide)
  intro _
  refine ⟨id,fun _=>cq,fun _=>cr,id,fun _=>z9,id,fun _ h=>ay h,?_⟩
  refine And.intro ?_ ?_
  ·intro h; exact absurd ((qt h).2.symm.trans hq.2) (by decide)
  intro _
  rw [me hq]
  exact ⟨rf,tv⟩
 intro iK
 refine ⟨id,fun _=>cq,fun _=>cr,id,fun _=>z9,id,fun _ h=>ay h,?_⟩
 refine And.intro ?_ ?_
 ·intro gz
  have hq:=qt gz
  refine ⟨fun _=>xt,fun _=>cG,fun _=>cH,fun _=>z3,fun _=>xu,?_⟩
  refine ⟨id,fun _=>cq,fun _=>cr,id,fun _=>z9,id,fun _ h=>ay h,?_⟩
  refine And.intro ?_ ?_
  ·intro h; exact absurd ((qt h).2.symm.trans hq.2) (by decide)
  intro _
  rw [mf hq]
  exact ⟨rf,tv⟩
 intro gz
 refine ⟨id,fun _=>cq,fun _=>cr,id,fun _=>z9,id,fun _ h=>ay h,?_⟩
 refine And.intro ?_ ?_
 ·intro jM
  have hq:=qt jM
  skip
  refine ⟨fun _=>⟨Int.le_refl 0,by simp⟩,bR ⟨ai k,0,(k.tdiv 252).tmod 4,1+(k.tdiv 36).tmod 7⟩,fun _=>rfl,?_⟩
  refine ⟨fun _=>cG,fun _=>cH,fun _=>z2,fun _=>xw,fun _=>⟨by show _≤ai k - (aP.tdiv 540).tmod 2 * 1073741825; omega,by show ai k - (aP.tdiv 540).tmod 2 * 1073741825≤_; omega⟩,?_⟩
  refine ⟨fun _=>⟨Int.le_refl 0,by simp⟩,[I (ai k - (aP.tdiv 540).tmod 2 * 1073741825)],⟨rf,tv⟩,bR ⟨ai k,0,(k.tdiv 252).tmod 4,1+(k.tdiv 36).tmod 7⟩,rfl,?_⟩
  refine ⟨by kernel_rfl,?_⟩
  rw [mg hq]
  exact ⟨rf,tv⟩
 intro jM
 rw [mi (qf iE) (qf iK) (qf gz) (qf jM)]
 exact ⟨rf,tv⟩
set_option maxHeartbeats 4000000 in
theorem No (l:List Int) (hl:∀x∈l,AM x) (at' tick:Int) (bad:Bool) (ha:0≤at'∧at'≤1000000) (ht:0≤tick∧tick≤1099511627776) (hc:(bt l (at'+1) 1000000).tmod 6=5):cP Tryz.prog 19 [gD l,I at',I tick,B bad] [gG (fN l at' tick bad)]:=by
 refine bI aO mixed (aq _) (ar _) Tryz.func19 rfl (by kernel_rfl) rfl ?_
 have BT:=cA l at' 1000000 hl (by omega) (by omega)
 have pB:=cA l (at'+1) 1000000 hl (by omega) (by omega)
 obtain ⟨k0,k1⟩:=cX l at' 1000000 (by omega)
 obtain ⟨w0,w1⟩:=cX l (at'+1) 1000000 (by omega)
 refine .inl ⟨_,fun _=>BT.ok,?_⟩
 unfold fN
 generalize bt l at' 1000000=k at *
 generalize bt l (at'+1) 1000000=aP at *
 obtain ⟨d6,d36,my,gH,e6,CH,nD,im,m6,M6,m7,M7,m4,M8,n4,M9,f6,f54,f60,lT,g6,CI,CJ,nE,h9,Na,B3,Aw,h3,It,h2,Dg,i2,Nb,ba,bb,cq,cG,Nc,z9,z6,Nd,z3,z2,cr,cH,Nf,o6,s0,xp,xq,xt,xu,xw,b3,b5,Ng,Nh,Ni,b9,Nj⟩:=td k0 k1 w0 w1 ht
 refine .inl ⟨_,fun _=>(bu k k0).ok,?_⟩
 repeat first | refine ⟨fun _=>⟨by omega,by omega⟩,?_⟩ | refine ⟨fun _ h=>by omega,?_⟩
 refine .inl ⟨_,fun _=>(bu (k.tdiv 6+1+k.tmod 6) (by omega)).ok,?_⟩
 repeat first | refine ⟨fun _=>⟨by omega,by omega⟩,?_⟩ | refine ⟨fun _ h=>by omega,?_⟩
 refine .inl ⟨_,fun _=>pB.ok,?_⟩
 repeat first | refine ⟨fun _=>⟨by omega,by omega⟩,?_⟩ | refine ⟨fun _ h=>by omega,?_⟩
 clear e6 CH nD im g6 CI CJ nE d6 d36 my gH f6 f54 f60 lT
 refine And.intro (fun h=>absurd ((qZ h).symm.trans hc) (by decide)) ?_
 intro c0
 have c0:=pH c0
 refine And.intro (fun h=>absurd ((qZ h).symm.trans hc) (by decide)) ?_
 intro c1
 have c1:=pH c1
 refine And.intro (fun h=>absurd ((qZ h).symm.trans hc) (by decide)) ?_
 intro c2
 have c2:=pH c2
 refine And.intro (fun h=>absurd ((qZ h).symm.trans hc) (by decide)) ?_
 intro c3
 have c3:=pH c3
 refine And.intro (fun h=>absurd ((qZ h).symm.trans hc) (by decide)) ?_
 intro c4
 have c4:=pH c4
 have hB:dM k aP=(2,[⟨0,ai k,(k.tdiv 252).tmod 4,1+(k.tdiv 36).tmod 7⟩,⟨ai k,3 * ai k,(k.tdiv 252).tmod 4,1+(k.tdiv 36).tmod 7⟩,⟨3 * ai k,ai k,(k.tdiv 252).tmod 4,1⟩]):=by unfold dM; simp only; rw [if_neg (by omega),if_neg (by omega),if_neg (by omega)]
 repeat refine ⟨fun _=>by assumption,?_⟩
 refine Or.inr ?_
 refine Or.inl ?_
 refine ⟨[bR ⟨0,ai k,(k.tdiv 252).tmod 4,1+(k.tdiv 36).tmod 7⟩,bR ⟨ai k,3 * ai k,(k.tdiv 252).tmod 4,1+(k.tdiv 36).tmod 7⟩,bR ⟨3 * ai k,ai k,(k.tdiv 252).tmod 4,1⟩],rfl,⟨rf,rf,rf,rf,rf,rf,rf,rf,rf,rf,rf,rf,rf,rf,rf,tv⟩,(by simp; exact ⟨rfl,rfl,rfl⟩),?_⟩
 unfold j4; rw [hB]
 refine ⟨id,fun _=>cq,fun _=>cr,id,fun _=>z9,id,fun _ h=>ay h,?_⟩
 refine And.intro ?_ ?_
 ·intro iE
  have hq:=qt iE
  refine ⟨fun _=>cG,fun _=>cH,fun _=>z3,fun _=>s0,?_⟩
  refine ⟨fun _=>⟨Int.le_refl 0,by simp⟩,[I ((aP.tdiv 540).tmod 3 - 1)],⟨rf,tv⟩,bR ⟨0,ai k,(k.tdiv 252).tmod 4,1+(k.tdiv 36).tmod 7⟩,rfl,?_⟩
  refine ⟨id,fun _=>cq,fun _=>cr,id,fun _=>z9,id,fun _ h=>ay h,?_⟩
  refine And.intro ?_ ?_
  ·intro h; exact absurd ((qt h).2.symm.trans hq.2) (by decide)
  intro _
  refine ⟨id,fun _=>cq,fun _=>cr,id,fun _=>z9,id,fun _ h=>ay h,?_⟩
  refine And.intro ?_ ?_
  ·intro h; exact absurd ((qt h).2.symm.trans hq.2) (by decide)
  intro _
  refine ⟨id,fun _=>cq,fun _=>cr,id,fun _=>z9,id,fun _ h=>ay h,?_⟩
  refine And.intro ?_ ?_
  ·intro h; exact absurd ((qt h).2.symm.trans hq.2) (by decide)
  intro _
  rw [mc hq]
  exact ⟨rf,tv⟩
 intro iE
 refine ⟨id,fun _=>cq,fun _=>cr,id,fun _=>z9,id,fun _ h=>ay h,?_⟩
 refine And.intro ?_ ?_
 ·intro iK
  have hq:=qt iK
  refine ⟨fun _=>cG,fun _=>cH,fun _=>z2,fun _=>xp,fun _=>xq,?_⟩
  refine ⟨fun _=>⟨Int.le_refl 0,by simp⟩,[I (4 - (aP.tdiv 540).tmod 2 * 5)],⟨rf,tv⟩,bR ⟨0,ai k,(k.tdiv 252).tmod 4,1+(k.tdiv 36).tmod 7⟩,rfl,?_⟩
  refine ⟨id,fun _=>cq,fun _=>cr,id,fun _=>z9,id,fun _ h=>ay h,?_⟩
  refine And.intro ?_ ?_
  ·intro h; exact absurd ((qt h).2.symm.trans hq.2) (by decide)
  intro _
  refine ⟨id,fun _=>cq,fun _=>cr,id,fun _=>z9,id,fun _ h=>ay h,?_⟩
  refine And.intro ?_ ?_
  ·intro h; exact absurd ((qt h).2.symm.trans hq.2) (by decide)
  intro _
  rw [me hq]
  exact ⟨rf,tv⟩
 intro iK
 refine ⟨id,fun _=>cq,fun _=>cr,id,fun _=>z9,id,fun _ h=>ay h,?_⟩
 refine And.intro ?_ ?_
 ·intro gz
  have hq:=qt gz
  refine ⟨fun _=>xt,fun _=>cG,fun _=>cH,fun _=>z3,fun _=>xu,?_⟩
  refine ⟨id,fun _=>cq,fun _=>cr,id,fun _=>z9,id,fun _ h=>ay h,?_⟩
  refine And.intro ?_ ?_
  ·intro h; exact absurd ((qt h).2.symm.trans hq.2) (by decide)
  intro _
  rw [mf hq]
  exact ⟨rf,tv⟩
 intro gz
 refine ⟨id,fun _=>cq,fun _=>cr,id,fun _=>z9,id,fun _ h=>ay h,?_⟩
 refine And.intro ?_ ?_
 ·intro jM
  have hq:=qt jM
  skip
  refine ⟨fun _=>⟨Int.le_refl 0,by simp⟩,bR ⟨0,ai k,(k.tdiv 252).tmod 4,1+(k.tdiv 36).tmod 7⟩,fun _=>rfl,?_⟩
  refine ⟨fun _=>cG,fun _=>cH,fun _=>z2,fun _=>xw,fun _=>⟨by show _≤0 - (aP.tdiv 540).tmod 2 * 1073741825; omega,by show 0 - (aP.tdiv 540).tmod 2 * 1073741825≤_; omega⟩,?_⟩
  refine ⟨fun _=>⟨Int.le_refl 0,by simp⟩,[I (0 - (aP.tdiv 540).tmod 2 * 1073741825)],⟨rf,tv⟩,bR ⟨0,ai k,(k.tdiv 252).tmod 4,1+(k.tdiv 36).tmod 7⟩,rfl,?_⟩
  refine ⟨by kernel_rfl,?_⟩
  rw [mg hq]
  exact ⟨rf,tv⟩
 intro jM
 rw [mi (qf iE) (qf iK) (qf gz) (qf jM)]
 exact ⟨rf,tv⟩
end Go.Proofs.YtpbdohkbiklflaaGreatDoor
namespace Go.Proofs.YtpbdohkbiklflaaGreatDoor
open Go.TM
variable [cZ]
set_option maxRecDepth 100000
set_option maxHeartbeats 4000000 in
theorem KT (l:List Int) (hl:∀x∈l,AM x) (at' tick:Int) (bad:Bool) (ha:0≤at'∧at'≤1000000) (ht:0≤tick∧tick≤1099511627776) (hc:(bt l (at'+1) 1000000).tmod 6=2) (hd:ai (bt l at' 1000000)=ai ((bt l at' 1000000).tdiv 6+1+(bt l at' 1000000).tmod 6)):cP Tryz.prog 19 [gD l,I at',I tick,B bad] [gG (fN l at' tick bad)]:=by
 refine bI aO mixed (aq _) (ar _) Tryz.func19 rfl (by kernel_rfl) rfl ?_
 have BT:=cA l at' 1000000 hl (by omega) (by omega)
 have pB:=cA l (at'+1) 1000000 hl (by omega) (by omega)
 obtain ⟨k0,k1⟩:=cX l at' 1000000 (by omega)
 obtain ⟨w0,w1⟩:=cX l (at'+1) 1000000 (by omega)
 refine .inl ⟨_,fun _=>BT.ok,?_⟩
 unfold fN
 generalize bt l at' 1000000=k at *
 generalize bt l (at'+1) 1000000=aP at *
 obtain ⟨d6,d36,my,gH,e6,CH,nD,im,m6,M6,m7,M7,m4,M8,n4,M9,f6,f54,f60,lT,g6,CI,CJ,nE,h9,Na,B3,Aw,h3,It,h2,Dg,i2,Nb,ba,bb,cq,cG,Nc,z9,z6,Nd,z3,z2,cr,cH,Nf,o6,s0,xp,xq,xt,xu,xw,b3,b5,Ng,Nh,Ni,b9,Nj⟩:=td k0 k1 w0 w1 ht
 refine .inl ⟨_,fun _=>(bu k k0).ok,?_⟩
 repeat first | refine ⟨fun _=>⟨by omega,by omega⟩,?_⟩ | refine ⟨fun _ h=>by omega,?_⟩
 refine .inl ⟨_,fun _=>(bu (k.tdiv 6+1+k.tmod 6) (by omega)).ok,?_⟩
 repeat first | refine ⟨fun _=>⟨by omega,by omega⟩,?_⟩ | refine ⟨fun _ h=>by omega,?_⟩
 refine .inl ⟨_,fun _=>pB.ok,?_⟩
 repeat first | refine ⟨fun _=>⟨by omega,by omega⟩,?_⟩ | refine ⟨fun _ h=>by omega,?_⟩
 clear e6 CH nD im g6 CI CJ nE d6 d36 my gH f6 f54 f60 lT
 refine And.intro (fun h=>absurd ((qZ h).symm.trans hc) (by decide)) ?_
 intro c0
 have c0:=pH c0
 refine And.intro (fun h=>absurd ((qZ h).symm.trans hc) (by decide)) ?_
 intro c1
 have c1:=pH c1
 refine And.intro ?_ (fun h=>absurd hc (pH h))
 intro c2
 have c2:=qZ c2
 refine And.intro ?_ (fun h=>absurd c2 (pH h))
 intro _
 refine And.intro ?_ (fun h=>absurd hd (by simpa using h))
 ·intro sB
  have sB:ai k=ai (k.tdiv 6+1+k.tmod 6):=by simpa using sB
  repeat refine ⟨fun _=>by assumption,?_⟩
  refine Or.inr ?_
  refine Or.inl ?_
  refine ⟨[bR ⟨ai k,ai k+1,((k.tdiv 252).tmod 4).tdiv 2 * 2,1+(k.tdiv 36).tmod 7⟩,bR ⟨ai k+1,ai k,1,1+(aP.tdiv 6).tmod 9⟩],rfl,⟨rf,rf,rf,rf,rf,rf,rf,rf,rf,rf,tv⟩,(by simp; exact ⟨rfl,rfl⟩),?_⟩
  repeat refine ⟨fun _=>by assumption,?_⟩
  refine And.intro ?_ ?_
  ·intro pC
   have pC:(aP.tdiv 54).tmod 2=1:=by simpa using pC
   have hB:dM k aP=(2,[⟨ai k+1,ai k,1,1+(aP.tdiv 6).tmod 9⟩,⟨ai k,ai k+1,((k.tdiv 252).tmod 4).tdiv 2 * 2,1+(k.tdiv 36).tmod 7⟩]):=by unfold dM; simp only; rw [if_neg (by omega),if_pos (by omega),if_pos sB,if_pos pC]
   refine ⟨fun _=>⟨by decide,by simp⟩,bR ⟨ai k+1,ai k,1,1+(aP.tdiv 6).tmod 9⟩,fun _=>rfl,?_⟩
   refine ⟨fun _=>⟨Int.le_refl 0,by simp⟩,bR ⟨ai k,ai k+1,((k.tdiv 252).tmod 4).tdiv 2 * 2,1+(k.tdiv 36).tmod 7⟩,fun _=>rfl,?_⟩
   refine Or.inr ?_
   refine Or.inl ?_
   refine ⟨[bR ⟨ai k+1,ai k,1,1+(aP.tdiv 6).tmod 9⟩,bR ⟨ai k,ai k+1,((k.tdiv 252).tmod 4).tdiv 2 * 2,1+(k.tdiv 36).tmod 7⟩],rfl,⟨rf,rf,rf,rf,rf,rf,rf,rf,rf,rf,tv⟩,(by simp; exact ⟨rfl,rfl⟩),?_⟩
   refine ⟨by kernel_rfl,?_⟩
   unfold j4; rw [hB]
   refine ⟨id,fun _=>cq,fun _=>cr,id,fun _=>z9,id,fun _ h=>ay h,?_⟩
   refine And.intro ?_ ?_
   ·intro iE
    have hq:=qt iE
    refine ⟨fun _=>cG,fun _=>cH,fun _=>z3,fun _=>s0,?_⟩
    refine ⟨fun _=>⟨Int.le_refl 0,by simp⟩,[I ((aP.tdiv 540).tmod 3 - 1)],⟨rf,tv⟩,bR ⟨ai k+1,ai k,1,1+(aP.tdiv 6).tmod 9⟩,rfl,?_⟩
    refine ⟨id,fun _=>cq,fun _=>cr,id,fun _=>z9,id,fun _ h=>ay h,?_⟩
    refine And.intro ?_ ?_
    ·intro h; exact absurd ((qt h).2.symm.trans hq.2) (by decide)
    intro _
    refine ⟨id,fun _=>cq,fun _=>cr,id,fun _=>z9,id,fun _ h=>ay h,?_⟩
    refine And.intro ?_ ?_
    ·intro h; exact absurd ((qt h).2.symm.trans hq.2) (by decide)
    intro _
    refine ⟨id,fun _=>cq,fun _=>cr,id,fun _=>z9,id,fun _ h=>ay h,?_⟩
    refine And.intro ?_ ?_
    ·intro h; exact absurd ((qt h).2.symm.trans hq.2) (by decide)
    intro _
    rw [mc hq]
    exact ⟨rf,tv⟩
   intro iE
   refine ⟨id,fun _=>cq,fun _=>cr,id,fun _=>z9,id,fun _ h=>ay h,?_⟩
   refine And.intro ?_ ?_
   ·intro iK
    have hq:=qt iK
    refine ⟨fun _=>cG,fun _=>cH,fun _=>z2,fun _=>xp,fun _=>xq,?_⟩
    refine ⟨fun _=>⟨Int.le_refl 0,by simp⟩,[I (4 - (aP.tdiv 540).tmod 2 * 5)],⟨rf,tv⟩,bR ⟨ai k+1,ai k,1,1+(aP.tdiv 6).tmod 9⟩,rfl,?_⟩
    refine ⟨id,fun _=>cq,fun _=>cr,id,fun _=>z9,id,fun _ h=>ay h,?_⟩
    refine And.intro ?_ ?_
    ·intro h; exact absurd ((qt h).2.symm.trans hq.2) (by decide)
    intro _
    refine ⟨id,fun _=>cq,fun _=>cr,id,fun _=>z9,id,fun _ h=>ay h,?_⟩
    refine And.intro ?_ ?_
    ·intro h; exact absurd ((qt h).2.symm.trans hq.2) (by decide)
    intro _
    rw [me hq]
    exact ⟨rf,tv⟩
   intro iK
   refine ⟨id,fun _=>cq,fun _=>cr,id,fun _=>z9,id,fun _ h=>ay h,?_⟩
   refine And.intro ?_ ?_
   ·intro gz
    have hq:=qt gz
    refine ⟨fun _=>xt,fun _=>cG,fun _=>cH,fun _=>z3,fun _=>xu,?_⟩
    refine ⟨id,fun _=>cq,fun _=>cr,id,fun _=>z9,id,fun _ h=>ay h,?_⟩
    refine And.intro ?_ ?_
    ·intro h; exact absurd ((qt h).2.symm.trans hq.2) (by decide)
    intro _
    rw [mf hq]
    exact ⟨rf,tv⟩
   intro gz
   refine ⟨id,fun _=>cq,fun _=>cr,id,fun _=>z9,id,fun _ h=>ay h,?_⟩
   refine And.intro ?_ ?_
   ·intro jM
    have hq:=qt jM
    skip
    refine ⟨fun _=>⟨Int.le_refl 0,by simp⟩,bR ⟨ai k+1,ai k,1,1+(aP.tdiv 6).tmod 9⟩,fun _=>rfl,?_⟩
    refine ⟨fun _=>cG,fun _=>cH,fun _=>z2,fun _=>xw,fun _=>⟨by show _≤ai k+1 - (aP.tdiv 540).tmod 2 * 1073741825; omega,by show ai k+1 - (aP.tdiv 540).tmod 2 * 1073741825≤_; omega⟩,?_⟩
    refine ⟨fun _=>⟨Int.le_refl 0,by simp⟩,[I (ai k+1 - (aP.tdiv 540).tmod 2 * 1073741825)],⟨rf,tv⟩,bR ⟨ai k+1,ai k,1,1+(aP.tdiv 6).tmod 9⟩,rfl,?_⟩
    refine ⟨by kernel_rfl,?_⟩
    rw [mg hq]
    exact ⟨rf,tv⟩
   intro jM
   rw [mi (qf iE) (qf iK) (qf gz) (qf jM)]
   exact ⟨rf,tv⟩
  ·intro pC
   have pC:¬ (aP.tdiv 54).tmod 2=1:=by simpa using pC
   have hB:dM k aP=(2,[⟨ai k,ai k+1,((k.tdiv 252).tmod 4).tdiv 2 * 2,1+(k.tdiv 36).tmod 7⟩,⟨ai k+1,ai k,1,1+(aP.tdiv 6).tmod 9⟩]):=by unfold dM; simp only; rw [if_neg (by omega),if_pos (by omega),if_pos sB,if_neg pC]
   unfold j4; rw [hB]
   refine ⟨id,fun _=>cq,fun _=>cr,id,fun _=>z9,id,fun _ h=>ay h,?_⟩
   refine And.intro ?_ ?_
   ·intro iE
    have hq:=qt iE
    refine ⟨fun _=>cG,fun _=>cH,fun _=>z3,fun _=>s0,?_⟩
    refine ⟨fun _=>⟨Int.le_refl 0,by simp⟩,[I ((aP.tdiv 540).tmod 3 - 1)],⟨rf,tv⟩,bR ⟨ai k,ai k+1,((k.tdiv 252).tmod 4).tdiv 2 * 2,1+(k.tdiv 36).tmod 7⟩,rfl,?_⟩
    refine ⟨id,fun _=>cq,fun _=>cr,id,fun _=>z9,id,fun _ h=>ay h,?_⟩
    refine And.intro ?_ ?_
    ·intro h; exact absurd ((qt h).2.symm.trans hq.2) (by decide)
    intro _
    refine ⟨id,fun _=>cq,fun _=>cr,id,fun _=>z9,id,fun _ h=>ay h,?_⟩
    refine And.intro ?_ ?_
    ·intro h; exact absurd ((qt h).2.symm.trans hq.2) (by decide)
    intro _
    refine ⟨id,fun _=>cq,fun _=>cr,id,fun _=>z9,id,fun _ h=>ay h,?_⟩
    refine And.intro ?_ ?_
    ·intro h; exact absurd ((qt h).2.symm.trans hq.2) (by decide)
    intro _
    rw [mc hq]
    exact ⟨rf,tv⟩
   intro iE
   refine ⟨id,fun _=>cq,fun _=>cr,id,fun _=>z9,id,fun _ h=>ay h,?_⟩
   refine And.intro ?_ ?_
   ·intro iK
    have hq:=qt iK
    refine ⟨fun _=>cG,fun _=>cH,fun _=>z2,fun _=>xp,fun _=>xq,?_⟩
    refine ⟨fun _=>⟨Int.le_refl 0,by simp⟩,[I (4 - (aP.tdiv 540).tmod 2 * 5)],⟨rf,tv⟩,bR ⟨ai k,ai k+1,((k.tdiv 252).tmod 4).tdiv 2 * 2,1+(k.tdiv 36).tmod 7⟩,rfl,?_⟩
    refine ⟨id,fun _=>cq,fun _=>cr,id,fun _=>z9,id,fun _ h=>ay h,?_⟩
    refine And.intro ?_ ?_
    ·intro h; exact absurd ((qt h).2.symm.trans hq.2) (by decide)
    intro _
    refine ⟨id,fun _=>cq,fun _=>cr,id,fun _=>z9,id,fun _ h=>ay h,?_⟩
    refine And.intro ?_ ?_
    ·intro h; exact absurd ((qt h).2.symm.trans hq.2) (by decide)
    intro _
    rw [me hq]
    exact ⟨rf,tv⟩
   intro iK
   refine ⟨id,fun _=>cq,fun _=>cr,id,fun _=>z9,id,fun _ h=>ay h,?_⟩
   refine And.intro ?_ ?_
   ·intro gz
    have hq:=qt gz
    refine ⟨fun _=>xt,fun _=>cG,fun _=>cH,fun _=>z3,fun _=>xu,?_⟩
    refine ⟨id,fun _=>cq,fun _=>cr,id,fun _=>z9,id,fun _ h=>ay h,?_⟩
    refine And.intro ?_ ?_
    ·intro h; exact absurd ((qt h).2.symm.trans hq.2) (by decide)
    intro _
    rw [mf hq]
    exact ⟨rf,tv⟩
   intro gz
   refine ⟨id,fun _=>cq,fun _=>cr,id,fun _=>z9,id,fun _ h=>ay h,?_⟩
   refine And.intro ?_ ?_
   ·intro jM
    have hq:=qt jM
    skip
    refine ⟨fun _=>⟨Int.le_refl 0,by simp⟩,bR ⟨ai k,ai k+1,((k.tdiv 252).tmod 4).tdiv 2 * 2,1+(k.tdiv 36).tmod 7⟩,fun _=>rfl,?_⟩
    refine ⟨fun _=>cG,fun _=>cH,fun _=>z2,fun _=>xw,fun _=>⟨by show _≤ai k - (aP.tdiv 540).tmod 2 * 1073741825; omega,by show ai k - (aP.tdiv 540).tmod 2 * 1073741825≤_; omega⟩,?_⟩
    refine ⟨fun _=>⟨Int.le_refl 0,by simp⟩,[I (ai k - (aP.tdiv 540).tmod 2 * 1073741825)],⟨rf,tv⟩,bR ⟨ai k,ai k+1,((k.tdiv 252).tmod 4).tdiv 2 * 2,1+(k.tdiv 36).tmod 7⟩,rfl,?_⟩
    refine ⟨by kernel_rfl,?_⟩
    rw [mg hq]
    exact ⟨rf,tv⟩
   intro jM
   rw [mi (qf iE) (qf iK) (qf gz) (qf jM)]
   exact ⟨rf,tv⟩
end Go.Proofs.YtpbdohkbiklflaaGreatDoor
namespace Go.Proofs.YtpbdohkbiklflaaGreatDoor
open Go.TM
variable [cZ]
set_option maxRecDepth 100000
set_option maxHeartbeats 4000000 in
theorem KU (l:List Int) (hl:∀x∈l,AM x) (at' tick:Int) (bad:Bool) (ha:0≤at'∧at'≤1000000) (ht:0≤tick∧tick≤1099511627776) (hc:(bt l (at'+1) 1000000).tmod 6=2) (hd:¬ ai (bt l at' 1000000)=ai ((bt l at' 1000000).tdiv 6+1+(bt l at' 1000000).tmod 6)):cP Tryz.prog 19 [gD l,I at',I tick,B bad] [gG (fN l at' tick bad)]:=by
 refine bI aO mixed (aq _) (ar _) Tryz.func19 rfl (by kernel_rfl) rfl ?_
 have BT:=cA l at' 1000000 hl (by omega) (by omega)
 have pB:=cA l (at'+1) 1000000 hl (by omega) (by omega)
 obtain ⟨k0,k1⟩:=cX l at' 1000000 (by omega)
 obtain ⟨w0,w1⟩:=cX l (at'+1) 1000000 (by omega)
 refine .inl ⟨_,fun _=>BT.ok,?_⟩
 unfold fN
 generalize bt l at' 1000000=k at *
 generalize bt l (at'+1) 1000000=aP at *
 obtain ⟨d6,d36,my,gH,e6,CH,nD,im,m6,M6,m7,M7,m4,M8,n4,M9,f6,f54,f60,lT,g6,CI,CJ,nE,h9,Na,B3,Aw,h3,It,h2,Dg,i2,Nb,ba,bb,cq,cG,Nc,z9,z6,Nd,z3,z2,cr,cH,Nf,o6,s0,xp,xq,xt,xu,xw,b3,b5,Ng,Nh,Ni,b9,Nj⟩:=td k0 k1 w0 w1 ht
 refine .inl ⟨_,fun _=>(bu k k0).ok,?_⟩
 repeat first | refine ⟨fun _=>⟨by omega,by omega⟩,?_⟩ | refine ⟨fun _ h=>by omega,?_⟩
 refine .inl ⟨_,fun _=>(bu (k.tdiv 6+1+k.tmod 6) (by omega)).ok,?_⟩
 repeat first | refine ⟨fun _=>⟨by omega,by omega⟩,?_⟩ | refine ⟨fun _ h=>by omega,?_⟩
 refine .inl ⟨_,fun _=>pB.ok,?_⟩
 repeat first | refine ⟨fun _=>⟨by omega,by omega⟩,?_⟩ | refine ⟨fun _ h=>by omega,?_⟩
 clear e6 CH nD im g6 CI CJ nE d6 d36 my gH f6 f54 f60 lT
 refine And.intro (fun h=>absurd ((qZ h).symm.trans hc) (by decide)) ?_
 intro c0
 have c0:=pH c0
 refine And.intro (fun h=>absurd ((qZ h).symm.trans hc) (by decide)) ?_
 intro c1
 have c1:=pH c1
 refine And.intro ?_ (fun h=>absurd hc (pH h))
 intro c2
 have c2:=qZ c2
 refine And.intro ?_ (fun h=>absurd c2 (pH h))
 intro _
 refine And.intro (fun h=>absurd (by simpa using h) hd) ?_
 ·intro sB
  have sB:¬ ai k=ai (k.tdiv 6+1+k.tmod 6):=by simpa using sB
  repeat refine ⟨fun _=>by assumption,?_⟩
  refine Or.inr ?_
  refine Or.inl ?_
  refine ⟨[bR ⟨ai k,ai (k.tdiv 6+1+k.tmod 6),((k.tdiv 252).tmod 4).tdiv 2 * 2,1+(k.tdiv 36).tmod 7⟩,bR ⟨ai (k.tdiv 6+1+k.tmod 6),ai k,1,1+(aP.tdiv 6).tmod 9⟩],rfl,⟨rf,rf,rf,rf,rf,rf,rf,rf,rf,rf,tv⟩,(by simp; exact ⟨rfl,rfl⟩),?_⟩
  repeat refine ⟨fun _=>by assumption,?_⟩
  refine And.intro ?_ ?_
  ·intro pC
   have pC:(aP.tdiv 54).tmod 2=1:=by simpa using pC
   have hB:dM k aP=(2,[⟨ai (k.tdiv 6+1+k.tmod 6),ai k,1,1+(aP.tdiv 6).tmod 9⟩,⟨ai k,ai (k.tdiv 6+1+k.tmod 6),((k.tdiv 252).tmod 4).tdiv 2 * 2,1+(k.tdiv 36).tmod 7⟩]):=by unfold dM; simp only; rw [if_neg (by omega),if_pos (by omega),if_neg sB,if_pos pC]
   refine ⟨fun _=>⟨by decide,by simp⟩,bR ⟨ai (k.tdiv 6+1+k.tmod 6),ai k,1,1+(aP.tdiv 6).tmod 9⟩,fun _=>rfl,?_⟩
   refine ⟨fun _=>⟨Int.le_refl 0,by simp⟩,bR ⟨ai k,ai (k.tdiv 6+1+k.tmod 6),((k.tdiv 252).tmod 4).tdiv 2 * 2,1+(k.tdiv 36).tmod 7⟩,fun _=>rfl,?_⟩
   refine Or.inr ?_
   refine Or.inl ?_
   refine ⟨[bR ⟨ai (k.tdiv 6+1+k.tmod 6),ai k,1,1+(aP.tdiv 6).tmod 9⟩,bR ⟨ai k,ai (k.tdiv 6+1+k.tmod 6),((k.tdiv 252).tmod 4).tdiv 2 * 2,1+(k.tdiv 36).tmod 7⟩],rfl,⟨rf,rf,rf,rf,rf,rf,rf,rf,rf,rf,tv⟩,(by simp; exact ⟨rfl,rfl⟩),?_⟩
   refine ⟨by kernel_rfl,?_⟩
   unfold j4; rw [hB]
   refine ⟨id,fun _=>cq,fun _=>cr,id,fun _=>z9,id,fun _ h=>ay h,?_⟩
   refine And.intro ?_ ?_
   ·intro iE
    have hq:=qt iE
    refine ⟨fun _=>cG,fun _=>cH,fun _=>z3,fun _=>s0,?_⟩
    refine ⟨fun _=>⟨Int.le_refl 0,by simp⟩,[I ((aP.tdiv 540).tmod 3 - 1)],⟨rf,tv⟩,bR ⟨ai (k.tdiv 6+1+k.tmod 6),ai k,1,1+(aP.tdiv 6).tmod 9⟩,rfl,?_⟩
    refine ⟨id,fun _=>cq,fun _=>cr,id,fun _=>z9,id,fun _ h=>ay h,?_⟩
    refine And.intro ?_ ?_
    ·intro h; exact absurd ((qt h).2.symm.trans hq.2) (by decide)
    intro _
    refine ⟨id,fun _=>cq,fun _=>cr,id,fun _=>z9,id,fun _ h=>ay h,?_⟩
    refine And.intro ?_ ?_
    ·intro h; exact absurd ((qt h).2.symm.trans hq.2) (by decide)
    intro _
    refine ⟨id,fun _=>cq,fun _=>cr,id,fun _=>z9,id,fun _ h=>ay h,?_⟩
    refine And.intro ?_ ?_
    ·intro h; exact absurd ((qt h).2.symm.trans hq.2) (by decide)
    intro _
    rw [mc hq]
    exact ⟨rf,tv⟩
   intro iE
   refine ⟨id,fun _=>cq,fun _=>cr,id,fun _=>z9,id,fun _ h=>ay h,?_⟩
   refine And.intro ?_ ?_
   ·intro iK
    have hq:=qt iK
    refine ⟨fun _=>cG,fun _=>cH,fun _=>z2,fun _=>xp,fun _=>xq,?_⟩
    refine ⟨fun _=>⟨Int.le_refl 0,by simp⟩,[I (4 - (aP.tdiv 540).tmod 2 * 5)],⟨rf,tv⟩,bR ⟨ai (k.tdiv 6+1+k.tmod 6),ai k,1,1+(aP.tdiv 6).tmod 9⟩,rfl,?_⟩
    refine ⟨id,fun _=>cq,fun _=>cr,id,fun _=>z9,id,fun _ h=>ay h,?_⟩
    refine And.intro ?_ ?_
    ·intro h; exact absurd ((qt h).2.symm.trans hq.2) (by decide)
    intro _
    refine ⟨id,fun _=>cq,fun _=>cr,id,fun _=>z9,id,fun _ h=>ay h,?_⟩
    refine And.intro ?_ ?_
    ·intro h; exact absurd ((qt h).2.symm.trans hq.2) (by decide)
    intro _
    rw [me hq]
    exact ⟨rf,tv⟩
   intro iK
   refine ⟨id,fun _=>cq,fun _=>cr,id,fun _=>z9,id,fun _ h=>ay h,?_⟩
   refine And.intro ?_ ?_
   ·intro gz
    have hq:=qt gz
    refine ⟨fun _=>xt,fun _=>cG,fun _=>cH,fun _=>z3,fun _=>xu,?_⟩
    refine ⟨id,fun _=>cq,fun _=>cr,id,fun _=>z9,id,fun _ h=>ay h,?_⟩
    refine And.intro ?_ ?_
    ·intro h; exact absurd ((qt h).2.symm.trans hq.2) (by decide)
    intro _
    rw [mf hq]
    exact ⟨rf,tv⟩
   intro gz
   refine ⟨id,fun _=>cq,fun _=>cr,id,fun _=>z9,id,fun _ h=>ay h,?_⟩
   refine And.intro ?_ ?_
   ·intro jM
    have hq:=qt jM
    skip
    refine ⟨fun _=>⟨Int.le_refl 0,by simp⟩,bR ⟨ai (k.tdiv 6+1+k.tmod 6),ai k,1,1+(aP.tdiv 6).tmod 9⟩,fun _=>rfl,?_⟩
    refine ⟨fun _=>cG,fun _=>cH,fun _=>z2,fun _=>xw,fun _=>⟨by show _≤ai (k.tdiv 6+1+k.tmod 6) - (aP.tdiv 540).tmod 2 * 1073741825; omega,by show ai (k.tdiv 6+1+k.tmod 6) - (aP.tdiv 540).tmod 2 * 1073741825≤_; omega⟩,?_⟩
    refine ⟨fun _=>⟨Int.le_refl 0,by simp⟩,[I (ai (k.tdiv 6+1+k.tmod 6) - (aP.tdiv 540).tmod 2 * 1073741825)],⟨rf,tv⟩,bR ⟨ai (k.tdiv 6+1+k.tmod 6),ai k,1,1+(aP.tdiv 6).tmod 9⟩,rfl,?_⟩
    refine ⟨by kernel_rfl,?_⟩
    rw [mg hq]
    exact ⟨rf,tv⟩
   intro jM
   rw [mi (qf iE) (qf iK) (qf gz) (qf jM)]
   exact ⟨rf,tv⟩
  ·intro pC
   have pC:¬ (aP.tdiv 54).tmod 2=1:=by simpa using pC
   have hB:dM k aP=(2,[⟨ai k,ai (k.tdiv 6+1+k.tmod 6),((k.tdiv 252).tmod 4).tdiv 2 * 2,1+(k.tdiv 36).tmod 7⟩,⟨ai (k.tdiv 6+1+k.tmod 6),ai k,1,1+(aP.tdiv 6).tmod 9⟩]):=by unfold dM; simp only; rw [if_neg (by omega),if_pos (by omega),if_neg sB,if_neg pC]
   unfold j4; rw [hB]
   refine ⟨id,fun _=>cq,fun _=>cr,id,fun _=>z9,id,fun _ h=>ay h,?_⟩
   refine And.intro ?_ ?_
   ·intro iE
    have hq:=qt iE
    refine ⟨fun _=>cG,fun _=>cH,fun _=>z3,fun _=>s0,?_⟩
    refine ⟨fun _=>⟨Int.le_refl 0,by simp⟩,[I ((aP.tdiv 540).tmod 3 - 1)],⟨rf,tv⟩,bR ⟨ai k,ai (k.tdiv 6+1+k.tmod 6),((k.tdiv 252).tmod 4).tdiv 2 * 2,1+(k.tdiv 36).tmod 7⟩,rfl,?_⟩
    refine ⟨id,fun _=>cq,fun _=>cr,id,fun _=>z9,id,fun _ h=>ay h,?_⟩
    refine And.intro ?_ ?_
    ·intro h; exact absurd ((qt h).2.symm.trans hq.2) (by decide)
    intro _
    refine ⟨id,fun _=>cq,fun _=>cr,id,fun _=>z9,id,fun _ h=>ay h,?_⟩
    refine And.intro ?_ ?_
    ·intro h; exact absurd ((qt h).2.symm.trans hq.2) (by decide)
    intro _
    refine ⟨id,fun _=>cq,fun _=>cr,id,fun _=>z9,id,fun _ h=>ay h,?_⟩
    refine And.intro ?_ ?_
    ·intro h; exact absurd ((qt h).2.symm.trans hq.2) (by decide)
    intro _
    rw [mc hq]
    exact ⟨rf,tv⟩
   intro iE
   refine ⟨id,fun _=>cq,fun _=>cr,id,fun _=>z9,id,fun _ h=>ay h,?_⟩
   refine And.intro ?_ ?_
   ·intro iK
    have hq:=qt iK
    refine ⟨fun _=>cG,fun _=>cH,fun _=>z2,fun _=>xp,fun _=>xq,?_⟩
    refine ⟨fun _=>⟨Int.le_refl 0,by simp⟩,[I (4 - (aP.tdiv 540).tmod 2 * 5)],⟨rf,tv⟩,bR ⟨ai k,ai (k.tdiv 6+1+k.tmod 6),((k.tdiv 252).tmod 4).tdiv 2 * 2,1+(k.tdiv 36).tmod 7⟩,rfl,?_⟩
    refine ⟨id,fun _=>cq,fun _=>cr,id,fun _=>z9,id,fun _ h=>ay h,?_⟩
    refine And.intro ?_ ?_
    ·intro h; exact absurd ((qt h).2.symm.trans hq.2) (by decide)
    intro _
    refine ⟨id,fun _=>cq,fun _=>cr,id,fun _=>z9,id,fun _ h=>ay h,?_⟩
    refine And.intro ?_ ?_
    ·intro h; exact absurd ((qt h).2.symm.trans hq.2) (by decide)
    intro _
    rw [me hq]
    exact ⟨rf,tv⟩
   intro iK
   refine ⟨id,fun _=>cq,fun _=>cr,id,fun _=>z9,id,fun _ h=>ay h,?_⟩
   refine And.intro ?_ ?_
   ·intro gz
    have hq:=qt gz
    refine ⟨fun _=>xt,fun _=>cG,fun _=>cH,fun _=>z3,fun _=>xu,?_⟩
    refine ⟨id,fun _=>cq,fun _=>cr,id,fun _=>z9,id,fun _ h=>ay h,?_⟩
    refine And.intro ?_ ?_
    ·intro h; exact absurd ((qt h).2.symm.trans hq.2) (by decide)
    intro _
    rw [mf hq]
    exact ⟨rf,tv⟩
   intro gz
   refine ⟨id,fun _=>cq,fun _=>cr,id,fun _=>z9,id,fun _ h=>ay h,?_⟩
   refine And.intro ?_ ?_
   ·intro jM
    have hq:=qt jM
    skip
    refine ⟨fun _=>⟨Int.le_refl 0,by simp⟩,bR ⟨ai k,ai (k.tdiv 6+1+k.tmod 6),((k.tdiv 252).tmod 4).tdiv 2 * 2,1+(k.tdiv 36).tmod 7⟩,fun _=>rfl,?_⟩
    refine ⟨fun _=>cG,fun _=>cH,fun _=>z2,fun _=>xw,fun _=>⟨by show _≤ai k - (aP.tdiv 540).tmod 2 * 1073741825; omega,by show ai k - (aP.tdiv 540).tmod 2 * 1073741825≤_; omega⟩,?_⟩
    refine ⟨fun _=>⟨Int.le_refl 0,by simp⟩,[I (ai k - (aP.tdiv 540).tmod 2 * 1073741825)],⟨rf,tv⟩,bR ⟨ai k,ai (k.tdiv 6+1+k.tmod 6),((k.tdiv 252).tmod 4).tdiv 2 * 2,1+(k.tdiv 36).tmod 7⟩,rfl,?_⟩
    refine ⟨by kernel_rfl,?_⟩
    rw [mg hq]
    exact ⟨rf,tv⟩
   intro jM
   rw [mi (qf iE) (qf iK) (qf gz) (qf jM)]
   exact ⟨rf,tv⟩
end Go.Proofs.YtpbdohkbiklflaaGreatDoor
