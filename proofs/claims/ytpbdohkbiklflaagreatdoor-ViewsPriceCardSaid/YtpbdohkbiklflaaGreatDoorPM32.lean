import Derived.Test.YtpbdohkbiklflaaGreatDoorPM29
import Derived.Test.YtpbdohkbiklflaaGreatDoorPM30
import Derived.Test.YtpbdohkbiklflaaGreatDoorPM31
import Derived.Test.YtpbdohkbiklflaaGreatDoorPM21
import Derived.Test.YtpbdohkbiklflaaGreatDoorPM24
set_option linter.unusedVariables false
set_option linter.unusedSimpArgs false
set_option linter.unusedSectionVars false
namespace Go.Proofs.YtpbdohkbiklflaaGreatDoor
open Go.TM
variable [cP]
set_option maxRecDepth 100000
theorem Tf (h g:Bool) (X:Vs):Nv 3 0 1 (xb false h g X) (xb true h g X):=⟨_,rfl,rfl,fun j hj=>match j,hj with
 | 0,_=>.cells (.same _ (.same _ (.same _ (.same _ (.same _ (.same _ (.same _ (.same _ (.Te (nG.refl _ _ _ _))))))))))
 | 1,_=>.refl _
 | 2,_=>.refl _
 | 3,hj=>absurd rfl hj
 | 4,_=>.refl _
 | 5,_=>.refl _
 | _+6,_=>(C0.refl ao.none:C0 3 0 1 ao.none ao.none)⟩
theorem Tg (f g:Bool) (X:Vs):Nv 4 0 1 (xb f false g X) (xb f true g X):=⟨_,rfl,rfl,fun j hj=>match j,hj with
 | 0,_=>.cells (.same _ (.same _ (.same _ (.same _ (.same _ (.same _ (.same _ (.same _ (.same _ (.Te (nG.refl _ _ _ _)))))))))))
 | 1,_=>.refl _
 | 2,_=>.refl _
 | 3,_=>.refl _
 | 4,hj=>absurd rfl hj
 | 5,_=>.refl _
 | _+6,_=>(C0.refl ao.none:C0 4 0 1 ao.none ao.none)⟩
theorem Fh {s:Vs} {S:SS} {L N:Nat} (h:IK s S L N) (hL:L+8≤500) (hN:N≤99) (st:St) (hm:st.mv.length≤4) :
  match eM s S st with
  | .err e=>bj Tryz.prog 21 [.ptr 0 0,ES st] 6 (vK false s) 9 [.dv (I e)] (vK false s)
  | .ok A=>bj Tryz.prog 21 [.ptr 0 0,ES st] 6 (vK false s) 9 [.dv (I 0)] (xb true true true (cN s S st (aI s A))):=by
 have hw:=sq h hL hN st hm
 cases hq:eM s S st with
 | err e=>rw [hq] at hw; exact hw
 | ok A =>
  rw [hq] at hw
  simp only at hw ⊢
  have h1:bj Tryz.prog 21 [.ptr 0 0,ES st] 6 (vK false s) 9 [.dv (I 0)] (xb true (E5 s S st) true (cN s S st (aI s A))):=by
   cases hf:fG s A with
   | true=>rw [hf] at hw; exact hw
   | false=>rw [hf] at hw; exact wK hw (by omega) (.inl ⟨rfl,rfl⟩) (Tf _ _ _)
  cases hf:E5 s S st with
  | true=>rw [hf] at h1; exact h1
  | false=>rw [hf] at h1; exact wK h1 (by omega) (.inl ⟨rfl,rfl⟩) (Tg _ _ _)
theorem Fi (coin ab aD:Int) (h:Ld coin=false) (h2:E9 ab aD=false):bj Tryz.prog 12 [vg (Ao eB),.dv (I coin),.dv (I ab),.dv (I aD)] 0 [] 2 [.ptr 1 0,.dv (I 0)] [(1,.cells (jU [I 4,I coin,I ab,I aD,jJ [],I 0]))]:=by
 refine bl aK mixed (aq _) (ar _) Tryz.func12 rfl rfl (by kernel_rfl) ?_
 refine .inl ⟨_,fun _=>CM.ok,?_⟩
 refine ⟨fun h9=>by simp at h9,fun _=>?_⟩
 repeat first | refine ⟨id,?_⟩ | refine ⟨fun _ h=>cx h,?_⟩ | refine ⟨fun _ h=>ax h,?_⟩ | refine ⟨fun h=>⟨h,fun h2=>aP h h2⟩,?_⟩ | refine ⟨fun h=>⟨h,fun h2=>aC h h2⟩,?_⟩
 obtain ⟨nm,PD⟩:=Lf eB coin
 refine ⟨_,PD,?_⟩
 repeat first | refine ⟨id,?_⟩ | refine ⟨fun _ h=>cx h,?_⟩ | refine ⟨fun _ h=>ax h,?_⟩ | refine ⟨fun h=>⟨h,fun h2=>aP h h2⟩,?_⟩ | refine ⟨fun h=>⟨h,fun h2=>aC h h2⟩,?_⟩
 refine ⟨fun hc=>?_,fun _=>?_⟩
 ·have:Ld coin=true:=hc
  rw [h] at this; cases this
 repeat first | refine ⟨id,?_⟩ | refine ⟨fun _ h=>cx h,?_⟩ | refine ⟨fun _ h=>ax h,?_⟩ | refine ⟨fun h=>⟨h,fun h2=>aP h h2⟩,?_⟩ | refine ⟨fun h=>⟨h,fun h2=>aC h h2⟩,?_⟩
 refine ⟨fun hc=>?_,fun _=>?_⟩
 ·have:E9 ab aD=true:=hc
  rw [h2] at this; cases this
 exact ⟨_,_,⟨rfl,rfl⟩,by kernel_rfl,⟨rfl,rf,tv⟩,⟨rf,rf,rf,rf,qN _,rf,tv⟩,tv⟩
def W8 (coin ab aD:Int):RV:=⟨coin,ab,aD,[],0⟩
theorem Fj (coin ab aD:Int) (h:Ld coin=false) (h2:E9 ab aD=false):bj Tryz.prog 12 [vg (Ao eB),.dv (I coin),.dv (I ab),.dv (I aD)] 0 [] 2 [.own 1 0 0 [],.dv (I 0)] [(1,.tree 0 0 (.cT (Qx (W8 coin ab aD))))] :=
 C3 (Fi coin ab aD h h2)
end Go.Proofs.YtpbdohkbiklflaaGreatDoor
namespace Go.Proofs.YtpbdohkbiklflaaGreatDoor
open Go.TM
def jR (n m:Int):Int:=(if n<0 then -(n+1) else n).tmod m
theorem ss (n m:Int) (hm:1≤m):0≤jR n m∧jR n m<m:=by
 unfold jR
 refine ⟨Int.tmod_nonneg _ (by split <;> omega),Int.tmod_lt_of_pos _ (by omega)⟩
def bu (l:List Int) (i m:Int):Int:=if i<0 ∨ (l.length:Int)≤i then 0 else jR (l.getD i.toNat 0) m
variable [cP]
theorem tp (n m:Int) (hn:yv n) (hm:1≤m) (W9:m≤1000000000000):cL Tryz.prog 10 [I n,I m] [I (jR n m)]:=by
 refine bE aK mixed (aq _) (ar _) Tryz.func10 rfl (by kernel_rfl) rfl ?_
 unfold yv at hn
 refine ⟨fun h=>?_,fun h=>?_⟩
 ·have h':n<0:=of_decide_eq_true h
  refine ⟨fun _=>⟨by omega,by omega⟩,fun _=>⟨by omega,by omega⟩,fun _=>by omega,?_⟩
  exact ⟨aB (by rw [jR,if_pos h',Int.zero_sub]),tv⟩
 ·have h':¬ n<0:=of_decide_eq_false h
  refine ⟨fun _=>by omega,?_⟩
  exact ⟨aB (by rw [jR,if_neg h']),tv⟩
theorem cB (l:List Int) (i m:Int) (hl:∀x∈l,yv x) (hm:1≤m) (W9:m≤1000000000000):cL Tryz.prog 42 [fV l,I i,I m] [I (bu l i m)]:=by
 refine bE aK mixed (aq _) (ar _) Tryz.func42 rfl (by kernel_rfl) rfl ?_
 repeat first | refine ⟨id,?_⟩ | refine ⟨fun _ h=>cx h,?_⟩ | refine ⟨fun _ h=>ax h,?_⟩ | refine ⟨fun h=>⟨h,fun h2=>aP h h2⟩,?_⟩ | refine ⟨fun h=>⟨h,fun h2=>aC h h2⟩,?_⟩
 refine ⟨fun h=>?_,fun h=>?_⟩
 ·have h':i<0 ∨ (l.length:Int)≤i:=by
   rw [List.length_map] at h
   simpa using h
  exact ⟨aB (by rw [bu,if_pos h']),tv⟩
 ·have h':¬ (i<0 ∨ (l.length:Int)≤i):=by
   rw [List.length_map] at h
   simp at h; omega
  have hg:l[i.toNat]?=some (l.getD i.toNat 0):=by rw [List.getD_eq_getElem?_getD,List.getElem?_eq_getElem (show i.toNat<l.length by omega)]; rfl
  refine ⟨I (l.getD i.toNat 0),fun _=>⟨by omega,by rw [List.getElem?_map,hg]; rfl⟩,?_⟩
  refine .inl ⟨_,fun _=>(tp _ m (hl _ (List.mem_of_getElem? hg)) hm W9).ok,?_⟩
  exact ⟨aB (by rw [bu,if_neg h']),tv⟩
end Go.Proofs.YtpbdohkbiklflaaGreatDoor
namespace Go.Proofs.YtpbdohkbiklflaaGreatDoor
open Go.TM
variable [cP]
set_option maxRecDepth 100000
theorem c5 (l:List Int) (i m:Int) (hm:1≤m):0≤bu l i m∧bu l i m<m:=by
 unfold bu; split
 ·omega
 ·exact ss _ m hm
def Fk:List Int:=[1,2,3,4,1048577,9]
theorem C4 (k:Int) (hk:0≤k):Fk[(k.tmod 6).toNat]?=some (aj k):=by
 have h1:=Int.tmod_nonneg 6 hk
 have h2:=Int.tmod_lt_of_pos k (show (0:Int)<6 by omega)
 unfold aj
 rw [List.getD_eq_getElem?_getD]
 show Fk[(k.tmod 6).toNat]?=some (Fk[(k.tmod 6).toNat]?.getD 0)
 have h3:(k.tmod 6).toNat<Fk.length:=by show _<6; omega
 rw [List.getElem?_eq_getElem h3]; rfl
theorem GW (k:Int) (hk:0≤k):1≤aj k∧aj k≤1048577:=by
 have:=List.mem_of_getElem? (C4 k hk)
 simp only [Fk,List.mem_cons,List.not_mem_nil,or_false] at this
 omega
theorem bz (k:Int) (hk:0≤k):cL Tryz.prog 43 [I k] [I (aj k)]:=by
 refine bE aK mixed (aq _) (ar _) Tryz.func43 rfl (by kernel_rfl) rfl ?_
 refine .inl ⟨Fk.map I,rfl,⟨rf,rf,rf,rf,rf,rf,tv⟩,(by simp [Fk]; exact ⟨rfl,rfl,rfl,rfl,rfl,rfl⟩),?_⟩
 have h1:=Int.tmod_nonneg 6 hk
 refine ⟨fun _ h=>by omega,?_⟩
 refine ⟨I (aj k),fun _=>⟨h1,by rw [List.getElem?_map,C4 k hk]; rfl⟩,?_⟩
 exact ⟨rf,tv⟩
def Fl (f:Mv→Mv):List Mv→List Mv
 | []=>[]
 | m::r=>f m::r
def dO (k aQ:Int):Int × List Mv :=
 let a:=aj k
 let b:=aj (k.tdiv 6+1+k.tmod 6)
 let n:=1+(k.tdiv 36).tmod 7
 let item:=(k.tdiv 252).tmod 4
 if aQ.tmod 6=0 ∨ aQ.tmod 6=1 then (0,[⟨0,a,item,3 * n⟩,⟨0,b,1,5 * n⟩]) else
 if aQ.tmod 6=2 ∨ aQ.tmod 6=3 then
  let b1:=if a=b then a+1 else b
  let x:Mv:=⟨a,b1,item.tdiv 2 * 2,n⟩
  let y:Mv:=⟨b1,a,1,1+(aQ.tdiv 6).tmod 9⟩
  (2,if (aQ.tdiv 54).tmod 2=1 then [y,x] else [x,y]) else
 if aQ.tmod 6=4 then ((aQ.tdiv 6).tmod 11,[⟨a,0,item,n⟩]) else
 (2,[⟨0,a,item,n⟩,⟨a,3 * a,item,n⟩,⟨3 * a,a,item,1⟩])
def wL (bad:Bool) (aQ tick:Int) (s:St):St :=
 if bad=true∧(aQ.tdiv 60).tmod 9=0 then { s with mv:=Fl (fun m=>{ m with n:=(aQ.tdiv 540).tmod 3 - 1 }) s.mv } else
 if bad=true∧(aQ.tdiv 60).tmod 9=1 then { s with mv:=Fl (fun m=>{ m with it:=4 - (aQ.tdiv 540).tmod 2 * 5 }) s.mv } else
 if bad=true∧(aQ.tdiv 60).tmod 9=2 then { s with tick:=tick - 1 - (aQ.tdiv 540).tmod 3 } else
 if bad=true∧(aQ.tdiv 60).tmod 9=3 then { s with mv:=Fl (fun m=>{ m with t:=m.f - (aQ.tdiv 540).tmod 2 * 1073741825 }) s.mv } else s
def ke (k aQ tick:Int) (bad:Bool):St:=wL bad aQ tick ⟨0,(dO k aQ).1,aj k,tick+(k.tdiv 1008).tmod 4,-1,0,(dO k aQ).2⟩
def eC (l:List Int) (at' tick:Int) (bad:Bool):St:=ke (bu l at' 1000000) (bu l (at'+1) 1000000) tick bad
theorem qt {bad:Bool} {q z:Int} (h:(bif bad then q == z else false)=true):bad=true∧q=z:=by
 obtain ⟨h1,h2⟩:=wa h; exact ⟨h1,by simpa using h2⟩
theorem qf {bad:Bool} {q z:Int} (h:(bif bad then q == z else false)=false):¬ (bad=true∧q=z):=fun h9=>Ci h ⟨h9.1,by simpa using h9.2⟩
theorem mn {bad:Bool} {aQ tick:Int} {s:St} (h:bad=true∧(aQ.tdiv 60).tmod 9=0):wL bad aQ tick s={ s with mv:=Fl (fun m=>{ m with n:=(aQ.tdiv 540).tmod 3 - 1 }) s.mv }:=if_pos h
theorem mo {bad:Bool} {aQ tick:Int} {s:St} (h:bad=true∧(aQ.tdiv 60).tmod 9=1):wL bad aQ tick s={ s with mv:=Fl (fun m=>{ m with it:=4 - (aQ.tdiv 540).tmod 2 * 5 }) s.mv }:=by
 unfold wL; rw [if_neg (fun h9=>absurd (h9.2.symm.trans h.2) (by decide)),if_pos h]
theorem mq {bad:Bool} {aQ tick:Int} {s:St} (h:bad=true∧(aQ.tdiv 60).tmod 9=2):wL bad aQ tick s={ s with tick:=tick - 1 - (aQ.tdiv 540).tmod 3 }:=by
 unfold wL; rw [if_neg (fun h9=>absurd (h9.2.symm.trans h.2) (by decide)),if_neg (fun h9=>absurd (h9.2.symm.trans h.2) (by decide)),if_pos h]
theorem mr {bad:Bool} {aQ tick:Int} {s:St} (h:bad=true∧(aQ.tdiv 60).tmod 9=3):wL bad aQ tick s={ s with mv:=Fl (fun m=>{ m with t:=m.f - (aQ.tdiv 540).tmod 2 * 1073741825 }) s.mv }:=by
 unfold wL; rw [if_neg (fun h9=>absurd (h9.2.symm.trans h.2) (by decide)),if_neg (fun h9=>absurd (h9.2.symm.trans h.2) (by decide)),if_neg (fun h9=>absurd (h9.2.symm.trans h.2) (by decide)),if_pos h]
theorem mu {bad:Bool} {aQ tick:Int} {s:St} (h0:¬ (bad=true∧(aQ.tdiv 60).tmod 9=0)) (h1:¬ (bad=true∧(aQ.tdiv 60).tmod 9=1)) (h2:¬ (bad=true∧(aQ.tdiv 60).tmod 9=2)) (h3:¬ (bad=true∧(aQ.tdiv 60).tmod 9=3)):wL bad aQ tick s=s:=by
 unfold wL; rw [if_neg h0,if_neg h1,if_neg h2,if_neg h3]
theorem su {x z:Int} (h:(x == z)=true):x=z:=by simpa using h
theorem pQ {x z:Int} (h:(x == z)=false):¬ x=z:=by simpa using h
theorem tq {k aQ tick:Int} (k0:0≤k) (k1:k<1000000) (w0:0≤aQ) (w1:aQ<1000000) (ht:0≤tick∧tick≤1099511627776):0≤k.tdiv 6∧0≤k.tdiv 36∧0≤k.tdiv 252∧0≤k.tdiv 1008∧k.tdiv 6≤k∧k.tdiv 36≤k∧k.tdiv 252≤k∧k.tdiv 1008≤k∧0≤k.tmod 6∧k.tmod 6<6∧0≤(k.tdiv 36).tmod 7∧(k.tdiv 36).tmod 7<7∧0≤(k.tdiv 252).tmod 4∧(k.tdiv 252).tmod 4<4∧0≤(k.tdiv 1008).tmod 4∧(k.tdiv 1008).tmod 4<4∧0≤aQ.tdiv 6∧0≤aQ.tdiv 54∧0≤aQ.tdiv 60∧0≤aQ.tdiv 540∧aQ.tdiv 6≤aQ∧aQ.tdiv 54≤aQ∧aQ.tdiv 60≤aQ∧aQ.tdiv 540≤aQ∧0≤(aQ.tdiv 6).tmod 9∧(aQ.tdiv 6).tmod 9<9∧0≤(aQ.tdiv 6).tmod 11∧(aQ.tdiv 6).tmod 11<11∧0≤(aQ.tdiv 540).tmod 3∧(aQ.tdiv 540).tmod 3<3∧0≤(aQ.tdiv 540).tmod 2∧(aQ.tdiv 540).tmod 2<2∧0≤((k.tdiv 252).tmod 4).tdiv 2∧((k.tdiv 252).tmod 4).tdiv 2≤(k.tdiv 252).tmod 4∧(1≤aj k∧aj k≤1048577)∧(1≤aj (k.tdiv 6+1+k.tmod 6)∧aj (k.tdiv 6+1+k.tmod 6)≤1048577)∧((60:Int)=0→False)∧((540:Int)=0→False)∧((54:Int)=0→False)∧((9:Int)=0→False)∧((6:Int)=0→False)∧((11:Int)=0→False)∧((3:Int)=0→False)∧((2:Int)=0→False)∧(-9223372036854775808≤aQ.tdiv 60∧aQ.tdiv 60≤9223372036854775807)∧(-9223372036854775808≤aQ.tdiv 540∧aQ.tdiv 540≤9223372036854775807)∧(-9223372036854775808≤aQ.tdiv 54∧aQ.tdiv 54≤9223372036854775807)∧(-9223372036854775808≤aQ.tdiv 6∧aQ.tdiv 6≤9223372036854775807)∧(-9223372036854775808≤(aQ.tdiv 540).tmod 3 - 1∧(aQ.tdiv 540).tmod 3 - 1≤9223372036854775807)∧(-9223372036854775808≤(aQ.tdiv 540).tmod 2 * 5∧(aQ.tdiv 540).tmod 2 * 5≤9223372036854775807)∧(-9223372036854775808≤4 - (aQ.tdiv 540).tmod 2 * 5∧4 - (aQ.tdiv 540).tmod 2 * 5≤9223372036854775807)∧(-9223372036854775808≤tick - 1∧tick - 1≤9223372036854775807)∧(-9223372036854775808≤tick - 1 - (aQ.tdiv 540).tmod 3∧tick - 1 - (aQ.tdiv 540).tmod 3≤9223372036854775807)∧(-9223372036854775808≤(aQ.tdiv 540).tmod 2 * 1073741825∧(aQ.tdiv 540).tmod 2 * 1073741825≤9223372036854775807)∧(-9223372036854775808≤3 * (1+(k.tdiv 36).tmod 7)∧3 * (1+(k.tdiv 36).tmod 7)≤9223372036854775807)∧(-9223372036854775808≤5 * (1+(k.tdiv 36).tmod 7)∧5 * (1+(k.tdiv 36).tmod 7)≤9223372036854775807)∧(-9223372036854775808≤aj k+1∧aj k+1≤9223372036854775807)∧(-9223372036854775808≤((k.tdiv 252).tmod 4).tdiv 2∧((k.tdiv 252).tmod 4).tdiv 2≤9223372036854775807)∧(-9223372036854775808≤((k.tdiv 252).tmod 4).tdiv 2 * 2∧((k.tdiv 252).tmod 4).tdiv 2 * 2≤9223372036854775807)∧(-9223372036854775808≤1+(aQ.tdiv 6).tmod 9∧1+(aQ.tdiv 6).tmod 9≤9223372036854775807)∧(-9223372036854775808≤3 * aj k∧3 * aj k≤9223372036854775807):=by
 have d6:=Int.tdiv_nonneg k0 (show (0:Int)≤6 by omega)
 have d36:=Int.tdiv_nonneg k0 (show (0:Int)≤36 by omega)
 have mF:=Int.tdiv_nonneg k0 (show (0:Int)≤252 by omega)
 have gL:=Int.tdiv_nonneg k0 (show (0:Int)≤1008 by omega)
 have e6:=Int.tdiv_le_self (a:=k) 6 k0
 have C5:=Int.tdiv_le_self (a:=k) 36 k0
 have nH:=Int.tdiv_le_self (a:=k) 252 k0
 have iu:=Int.tdiv_le_self (a:=k) 1008 k0
 have m6:=Int.tmod_nonneg 6 k0
 have Nx:=Int.tmod_lt_of_pos k (show (0:Int)<6 by omega)
 have m7:=Int.tmod_nonneg 7 d36
 have Ny:=Int.tmod_lt_of_pos (k.tdiv 36) (show (0:Int)<7 by omega)
 have m4:=Int.tmod_nonneg 4 mF
 have Nz:=Int.tmod_lt_of_pos (k.tdiv 252) (show (0:Int)<4 by omega)
 have n4:=Int.tmod_nonneg 4 gL
 have NA:=Int.tmod_lt_of_pos (k.tdiv 1008) (show (0:Int)<4 by omega)
 have f6:=Int.tdiv_nonneg w0 (show (0:Int)≤6 by omega)
 have f54:=Int.tdiv_nonneg w0 (show (0:Int)≤54 by omega)
 have f60:=Int.tdiv_nonneg w0 (show (0:Int)≤60 by omega)
 have lZ:=Int.tdiv_nonneg w0 (show (0:Int)≤540 by omega)
 have g6:=Int.tdiv_le_self (a:=aQ) 6 w0
 have C6:=Int.tdiv_le_self (a:=aQ) 54 w0
 have C7:=Int.tdiv_le_self (a:=aQ) 60 w0
 have nI:=Int.tdiv_le_self (a:=aQ) 540 w0
 have h9:=Int.tmod_nonneg 9 f6
 have NB:=Int.tmod_lt_of_pos (aQ.tdiv 6) (show (0:Int)<9 by omega)
 have Cl:=Int.tmod_nonneg 11 f6
 have AR:=Int.tmod_lt_of_pos (aQ.tdiv 6) (show (0:Int)<11 by omega)
 have h3:=Int.tmod_nonneg 3 lZ
 have IY:=Int.tmod_lt_of_pos (aQ.tdiv 540) (show (0:Int)<3 by omega)
 have h2:=Int.tmod_nonneg 2 lZ
 have DF:=Int.tmod_lt_of_pos (aQ.tdiv 540) (show (0:Int)<2 by omega)
 have i2:=Int.tdiv_nonneg m4 (show (0:Int)≤2 by omega)
 have NC:=Int.tdiv_le_self (a:=(k.tdiv 252).tmod 4) 2 m4
 have ba:=GW k k0
 have bb:=GW (k.tdiv 6+1+k.tmod 6) (by omega)
 have cq:(60:Int)=0→False:=by decide
 have cH:(540:Int)=0→False:=by decide
 have ND:(54:Int)=0→False:=by decide
 have z9:(9:Int)=0→False:=by decide
 have z6:(6:Int)=0→False:=by decide
 have NF:(11:Int)=0→False:=by decide
 have z3:(3:Int)=0→False:=by decide
 have z2:(2:Int)=0→False:=by decide
 have cr:-9223372036854775808≤aQ.tdiv 60∧aQ.tdiv 60≤9223372036854775807:=by omega
 have cI:-9223372036854775808≤aQ.tdiv 540∧aQ.tdiv 540≤9223372036854775807:=by omega
 have NG:-9223372036854775808≤aQ.tdiv 54∧aQ.tdiv 54≤9223372036854775807:=by omega
 have o6:-9223372036854775808≤aQ.tdiv 6∧aQ.tdiv 6≤9223372036854775807:=by omega
 have s0:-9223372036854775808≤(aQ.tdiv 540).tmod 3 - 1∧(aQ.tdiv 540).tmod 3 - 1≤9223372036854775807:=by omega
 have xG:-9223372036854775808≤(aQ.tdiv 540).tmod 2 * 5∧(aQ.tdiv 540).tmod 2 * 5≤9223372036854775807:=by omega
 have xH:-9223372036854775808≤4 - (aQ.tdiv 540).tmod 2 * 5∧4 - (aQ.tdiv 540).tmod 2 * 5≤9223372036854775807:=by omega
 have xJ:-9223372036854775808≤tick - 1∧tick - 1≤9223372036854775807:=by omega
 have xK:-9223372036854775808≤tick - 1 - (aQ.tdiv 540).tmod 3∧tick - 1 - (aQ.tdiv 540).tmod 3≤9223372036854775807:=by omega
 have xL:-9223372036854775808≤(aQ.tdiv 540).tmod 2 * 1073741825∧(aQ.tdiv 540).tmod 2 * 1073741825≤9223372036854775807:=by omega
 have b3:-9223372036854775808≤3 * (1+(k.tdiv 36).tmod 7)∧3 * (1+(k.tdiv 36).tmod 7)≤9223372036854775807:=by omega
 have b5:-9223372036854775808≤5 * (1+(k.tdiv 36).tmod 7)∧5 * (1+(k.tdiv 36).tmod 7)≤9223372036854775807:=by omega
 have NH:-9223372036854775808≤aj k+1∧aj k+1≤9223372036854775807:=by omega
 have NI:-9223372036854775808≤((k.tdiv 252).tmod 4).tdiv 2∧((k.tdiv 252).tmod 4).tdiv 2≤9223372036854775807:=by omega
 have NJ:-9223372036854775808≤((k.tdiv 252).tmod 4).tdiv 2 * 2∧((k.tdiv 252).tmod 4).tdiv 2 * 2≤9223372036854775807:=by omega
 have b9:-9223372036854775808≤1+(aQ.tdiv 6).tmod 9∧1+(aQ.tdiv 6).tmod 9≤9223372036854775807:=by omega
 have NK:-9223372036854775808≤3 * aj k∧3 * aj k≤9223372036854775807:=by omega
 exact ⟨d6,d36,mF,gL,e6,C5,nH,iu,m6,Nx,m7,Ny,m4,Nz,n4,NA,f6,f54,f60,lZ,g6,C6,C7,nI,h9,NB,Cl,AR,h3,IY,h2,DF,i2,NC,ba,bb,cq,cH,ND,z9,z6,NF,z3,z2,cr,cI,NG,o6,s0,xG,xH,xJ,xK,xL,b3,b5,NH,NI,NJ,b9,NK⟩
end Go.Proofs.YtpbdohkbiklflaaGreatDoor
namespace Go.Proofs.YtpbdohkbiklflaaGreatDoor
open Go.TM
variable [cP]
set_option maxRecDepth 100000
set_option maxHeartbeats 4000000 in
theorem NL (l:List Int) (hl:∀x∈l,yv x) (at' tick:Int) (bad:Bool) (ha:0≤at'∧at'≤1000000) (ht:0≤tick∧tick≤1099511627776) (hc:(bu l (at'+1) 1000000).tmod 6=0):cL Tryz.prog 19 [fV l,I at',I tick,B bad] [fW (eC l at' tick bad)]:=by
 refine bE aK mixed (aq _) (ar _) Tryz.func19 rfl (by kernel_rfl) rfl ?_
 have Cc:=cB l at' 1000000 hl (by omega) (by omega)
 have pJ:=cB l (at'+1) 1000000 hl (by omega) (by omega)
 obtain ⟨k0,k1⟩:=c5 l at' 1000000 (by omega)
 obtain ⟨w0,w1⟩:=c5 l (at'+1) 1000000 (by omega)
 refine .inl ⟨_,fun _=>Cc.ok,?_⟩
 unfold eC
 generalize bu l at' 1000000=k at *
 generalize bu l (at'+1) 1000000=aQ at *
 obtain ⟨d6,d36,mF,gL,e6,C5,nH,iu,m6,Nx,m7,Ny,m4,Nz,n4,NA,f6,f54,f60,lZ,g6,C6,C7,nI,h9,NB,Cl,AR,h3,IY,h2,DF,i2,NC,ba,bb,cq,cH,ND,z9,z6,NF,z3,z2,cr,cI,NG,o6,s0,xG,xH,xJ,xK,xL,b3,b5,NH,NI,NJ,b9,NK⟩:=tq k0 k1 w0 w1 ht
 refine .inl ⟨_,fun _=>(bz k k0).ok,?_⟩
 repeat first | refine ⟨fun _=>⟨by omega,by omega⟩,?_⟩ | refine ⟨fun _ h=>by omega,?_⟩
 refine .inl ⟨_,fun _=>(bz (k.tdiv 6+1+k.tmod 6) (by omega)).ok,?_⟩
 repeat first | refine ⟨fun _=>⟨by omega,by omega⟩,?_⟩ | refine ⟨fun _ h=>by omega,?_⟩
 refine .inl ⟨_,fun _=>pJ.ok,?_⟩
 repeat first | refine ⟨fun _=>⟨by omega,by omega⟩,?_⟩ | refine ⟨fun _ h=>by omega,?_⟩
 clear e6 C5 nH iu g6 C6 C7 nI d6 d36 mF gL f6 f54 f60 lZ
 refine And.intro ?_ (fun h=>absurd hc (pQ h))
 intro c0
 have c0:=su c0
 refine And.intro ?_ (fun h=>absurd c0 (pQ h))
 intro _
 have hB:dO k aQ=(0,[⟨0,aj k,(k.tdiv 252).tmod 4,3 * (1+(k.tdiv 36).tmod 7)⟩,⟨0,aj (k.tdiv 6+1+k.tmod 6),1,5 * (1+(k.tdiv 36).tmod 7)⟩]):=by unfold dO; simp only; rw [if_pos (by omega)]
 repeat refine ⟨fun _=>by assumption,?_⟩
 refine Or.inr ?_
 refine Or.inl ?_
 refine ⟨[cD ⟨0,aj k,(k.tdiv 252).tmod 4,3 * (1+(k.tdiv 36).tmod 7)⟩,cD ⟨0,aj (k.tdiv 6+1+k.tmod 6),1,5 * (1+(k.tdiv 36).tmod 7)⟩],rfl,⟨rf,rf,rf,rf,rf,rf,rf,rf,rf,rf,tv⟩,(by simp; exact ⟨rfl,rfl⟩),?_⟩
 unfold ke; rw [hB]
 refine ⟨id,fun _=>cq,fun _=>cr,id,fun _=>z9,id,fun _ h=>ax h,?_⟩
 refine And.intro ?_ ?_
 ·intro iG
  have hq:=qt iG
  refine ⟨fun _=>cH,fun _=>cI,fun _=>z3,fun _=>s0,?_⟩
  refine ⟨fun _=>⟨Int.le_refl 0,by simp⟩,[I ((aQ.tdiv 540).tmod 3 - 1)],⟨rf,tv⟩,cD ⟨0,aj k,(k.tdiv 252).tmod 4,3 * (1+(k.tdiv 36).tmod 7)⟩,rfl,?_⟩
  refine ⟨id,fun _=>cq,fun _=>cr,id,fun _=>z9,id,fun _ h=>ax h,?_⟩
  refine And.intro ?_ ?_
  ·intro h; exact absurd ((qt h).2.symm.trans hq.2) (by decide)
  intro _
  refine ⟨id,fun _=>cq,fun _=>cr,id,fun _=>z9,id,fun _ h=>ax h,?_⟩
  refine And.intro ?_ ?_
  ·intro h; exact absurd ((qt h).2.symm.trans hq.2) (by decide)
  intro _
  refine ⟨id,fun _=>cq,fun _=>cr,id,fun _=>z9,id,fun _ h=>ax h,?_⟩
  refine And.intro ?_ ?_
  ·intro h; exact absurd ((qt h).2.symm.trans hq.2) (by decide)
  intro _
  rw [mn hq]
  exact ⟨rf,tv⟩
 intro iG
 refine ⟨id,fun _=>cq,fun _=>cr,id,fun _=>z9,id,fun _ h=>ax h,?_⟩
 refine And.intro ?_ ?_
 ·intro iN
  have hq:=qt iN
  refine ⟨fun _=>cH,fun _=>cI,fun _=>z2,fun _=>xG,fun _=>xH,?_⟩
  refine ⟨fun _=>⟨Int.le_refl 0,by simp⟩,[I (4 - (aQ.tdiv 540).tmod 2 * 5)],⟨rf,tv⟩,cD ⟨0,aj k,(k.tdiv 252).tmod 4,3 * (1+(k.tdiv 36).tmod 7)⟩,rfl,?_⟩
  refine ⟨id,fun _=>cq,fun _=>cr,id,fun _=>z9,id,fun _ h=>ax h,?_⟩
  refine And.intro ?_ ?_
  ·intro h; exact absurd ((qt h).2.symm.trans hq.2) (by decide)
  intro _
  refine ⟨id,fun _=>cq,fun _=>cr,id,fun _=>z9,id,fun _ h=>ax h,?_⟩
  refine And.intro ?_ ?_
  ·intro h; exact absurd ((qt h).2.symm.trans hq.2) (by decide)
  intro _
  rw [mo hq]
  exact ⟨rf,tv⟩
 intro iN
 refine ⟨id,fun _=>cq,fun _=>cr,id,fun _=>z9,id,fun _ h=>ax h,?_⟩
 refine And.intro ?_ ?_
 ·intro gC
  have hq:=qt gC
  refine ⟨fun _=>xJ,fun _=>cH,fun _=>cI,fun _=>z3,fun _=>xK,?_⟩
  refine ⟨id,fun _=>cq,fun _=>cr,id,fun _=>z9,id,fun _ h=>ax h,?_⟩
  refine And.intro ?_ ?_
  ·intro h; exact absurd ((qt h).2.symm.trans hq.2) (by decide)
  intro _
  rw [mq hq]
  exact ⟨rf,tv⟩
 intro gC
 refine ⟨id,fun _=>cq,fun _=>cr,id,fun _=>z9,id,fun _ h=>ax h,?_⟩
 refine And.intro ?_ ?_
 ·intro jS
  have hq:=qt jS
  skip
  refine ⟨fun _=>⟨Int.le_refl 0,by simp⟩,cD ⟨0,aj k,(k.tdiv 252).tmod 4,3 * (1+(k.tdiv 36).tmod 7)⟩,fun _=>rfl,?_⟩
  refine ⟨fun _=>cH,fun _=>cI,fun _=>z2,fun _=>xL,fun _=>⟨by show _≤0 - (aQ.tdiv 540).tmod 2 * 1073741825; omega,by show 0 - (aQ.tdiv 540).tmod 2 * 1073741825≤_; omega⟩,?_⟩
  refine ⟨fun _=>⟨Int.le_refl 0,by simp⟩,[I (0 - (aQ.tdiv 540).tmod 2 * 1073741825)],⟨rf,tv⟩,cD ⟨0,aj k,(k.tdiv 252).tmod 4,3 * (1+(k.tdiv 36).tmod 7)⟩,rfl,?_⟩
  refine ⟨by kernel_rfl,?_⟩
  rw [mr hq]
  exact ⟨rf,tv⟩
 intro jS
 rw [mu (qf iG) (qf iN) (qf gC) (qf jS)]
 exact ⟨rf,tv⟩
set_option maxHeartbeats 4000000 in
theorem NM (l:List Int) (hl:∀x∈l,yv x) (at' tick:Int) (bad:Bool) (ha:0≤at'∧at'≤1000000) (ht:0≤tick∧tick≤1099511627776) (hc:(bu l (at'+1) 1000000).tmod 6=1):cL Tryz.prog 19 [fV l,I at',I tick,B bad] [fW (eC l at' tick bad)]:=by
 refine bE aK mixed (aq _) (ar _) Tryz.func19 rfl (by kernel_rfl) rfl ?_
 have Cc:=cB l at' 1000000 hl (by omega) (by omega)
 have pJ:=cB l (at'+1) 1000000 hl (by omega) (by omega)
 obtain ⟨k0,k1⟩:=c5 l at' 1000000 (by omega)
 obtain ⟨w0,w1⟩:=c5 l (at'+1) 1000000 (by omega)
 refine .inl ⟨_,fun _=>Cc.ok,?_⟩
 unfold eC
 generalize bu l at' 1000000=k at *
 generalize bu l (at'+1) 1000000=aQ at *
 obtain ⟨d6,d36,mF,gL,e6,C5,nH,iu,m6,Nx,m7,Ny,m4,Nz,n4,NA,f6,f54,f60,lZ,g6,C6,C7,nI,h9,NB,Cl,AR,h3,IY,h2,DF,i2,NC,ba,bb,cq,cH,ND,z9,z6,NF,z3,z2,cr,cI,NG,o6,s0,xG,xH,xJ,xK,xL,b3,b5,NH,NI,NJ,b9,NK⟩:=tq k0 k1 w0 w1 ht
 refine .inl ⟨_,fun _=>(bz k k0).ok,?_⟩
 repeat first | refine ⟨fun _=>⟨by omega,by omega⟩,?_⟩ | refine ⟨fun _ h=>by omega,?_⟩
 refine .inl ⟨_,fun _=>(bz (k.tdiv 6+1+k.tmod 6) (by omega)).ok,?_⟩
 repeat first | refine ⟨fun _=>⟨by omega,by omega⟩,?_⟩ | refine ⟨fun _ h=>by omega,?_⟩
 refine .inl ⟨_,fun _=>pJ.ok,?_⟩
 repeat first | refine ⟨fun _=>⟨by omega,by omega⟩,?_⟩ | refine ⟨fun _ h=>by omega,?_⟩
 clear e6 C5 nH iu g6 C6 C7 nI d6 d36 mF gL f6 f54 f60 lZ
 refine And.intro (fun h=>absurd ((su h).symm.trans hc) (by decide)) ?_
 intro c0
 have c0:=pQ c0
 refine And.intro ?_ (fun h=>absurd hc (pQ h))
 intro c1
 have c1:=su c1
 have hB:dO k aQ=(0,[⟨0,aj k,(k.tdiv 252).tmod 4,3 * (1+(k.tdiv 36).tmod 7)⟩,⟨0,aj (k.tdiv 6+1+k.tmod 6),1,5 * (1+(k.tdiv 36).tmod 7)⟩]):=by unfold dO; simp only; rw [if_pos (by omega)]
 repeat refine ⟨fun _=>by assumption,?_⟩
 refine Or.inr ?_
 refine Or.inl ?_
 refine ⟨[cD ⟨0,aj k,(k.tdiv 252).tmod 4,3 * (1+(k.tdiv 36).tmod 7)⟩,cD ⟨0,aj (k.tdiv 6+1+k.tmod 6),1,5 * (1+(k.tdiv 36).tmod 7)⟩],rfl,⟨rf,rf,rf,rf,rf,rf,rf,rf,rf,rf,tv⟩,(by simp; exact ⟨rfl,rfl⟩),?_⟩
 unfold ke; rw [hB]
 refine ⟨id,fun _=>cq,fun _=>cr,id,fun _=>z9,id,fun _ h=>ax h,?_⟩
 refine And.intro ?_ ?_
 ·intro iG
  have hq:=qt iG
  refine ⟨fun _=>cH,fun _=>cI,fun _=>z3,fun _=>s0,?_⟩
  refine ⟨fun _=>⟨Int.le_refl 0,by simp⟩,[I ((aQ.tdiv 540).tmod 3 - 1)],⟨rf,tv⟩,cD ⟨0,aj k,(k.tdiv 252).tmod 4,3 * (1+(k.tdiv 36).tmod 7)⟩,rfl,?_⟩
  refine ⟨id,fun _=>cq,fun _=>cr,id,fun _=>z9,id,fun _ h=>ax h,?_⟩
  refine And.intro ?_ ?_
  ·intro h; exact absurd ((qt h).2.symm.trans hq.2) (by decide)
  intro _
  refine ⟨id,fun _=>cq,fun _=>cr,id,fun _=>z9,id,fun _ h=>ax h,?_⟩
  refine And.intro ?_ ?_
  ·intro h; exact absurd ((qt h).2.symm.trans hq.2) (by decide)
  intro _
  refine ⟨id,fun _=>cq,fun _=>cr,id,fun _=>z9,id,fun _ h=>ax h,?_⟩
  refine And.intro ?_ ?_
  ·intro h; exact absurd ((qt h).2.symm.trans hq.2) (by decide)
  intro _
  rw [mn hq]
  exact ⟨rf,tv⟩
 intro iG
 refine ⟨id,fun _=>cq,fun _=>cr,id,fun _=>z9,id,fun _ h=>ax h,?_⟩
 refine And.intro ?_ ?_
 ·intro iN
  have hq:=qt iN
  refine ⟨fun _=>cH,fun _=>cI,fun _=>z2,fun _=>xG,fun _=>xH,?_⟩
  refine ⟨fun _=>⟨Int.le_refl 0,by simp⟩,[I (4 - (aQ.tdiv 540).tmod 2 * 5)],⟨rf,tv⟩,cD ⟨0,aj k,(k.tdiv 252).tmod 4,3 * (1+(k.tdiv 36).tmod 7)⟩,rfl,?_⟩
  refine ⟨id,fun _=>cq,fun _=>cr,id,fun _=>z9,id,fun _ h=>ax h,?_⟩
  refine And.intro ?_ ?_
  ·intro h; exact absurd ((qt h).2.symm.trans hq.2) (by decide)
  intro _
  refine ⟨id,fun _=>cq,fun _=>cr,id,fun _=>z9,id,fun _ h=>ax h,?_⟩
  refine And.intro ?_ ?_
  ·intro h; exact absurd ((qt h).2.symm.trans hq.2) (by decide)
  intro _
  rw [mo hq]
  exact ⟨rf,tv⟩
 intro iN
 refine ⟨id,fun _=>cq,fun _=>cr,id,fun _=>z9,id,fun _ h=>ax h,?_⟩
 refine And.intro ?_ ?_
 ·intro gC
  have hq:=qt gC
  refine ⟨fun _=>xJ,fun _=>cH,fun _=>cI,fun _=>z3,fun _=>xK,?_⟩
  refine ⟨id,fun _=>cq,fun _=>cr,id,fun _=>z9,id,fun _ h=>ax h,?_⟩
  refine And.intro ?_ ?_
  ·intro h; exact absurd ((qt h).2.symm.trans hq.2) (by decide)
  intro _
  rw [mq hq]
  exact ⟨rf,tv⟩
 intro gC
 refine ⟨id,fun _=>cq,fun _=>cr,id,fun _=>z9,id,fun _ h=>ax h,?_⟩
 refine And.intro ?_ ?_
 ·intro jS
  have hq:=qt jS
  skip
  refine ⟨fun _=>⟨Int.le_refl 0,by simp⟩,cD ⟨0,aj k,(k.tdiv 252).tmod 4,3 * (1+(k.tdiv 36).tmod 7)⟩,fun _=>rfl,?_⟩
  refine ⟨fun _=>cH,fun _=>cI,fun _=>z2,fun _=>xL,fun _=>⟨by show _≤0 - (aQ.tdiv 540).tmod 2 * 1073741825; omega,by show 0 - (aQ.tdiv 540).tmod 2 * 1073741825≤_; omega⟩,?_⟩
  refine ⟨fun _=>⟨Int.le_refl 0,by simp⟩,[I (0 - (aQ.tdiv 540).tmod 2 * 1073741825)],⟨rf,tv⟩,cD ⟨0,aj k,(k.tdiv 252).tmod 4,3 * (1+(k.tdiv 36).tmod 7)⟩,rfl,?_⟩
  refine ⟨by kernel_rfl,?_⟩
  rw [mr hq]
  exact ⟨rf,tv⟩
 intro jS
 rw [mu (qf iG) (qf iN) (qf gC) (qf jS)]
 exact ⟨rf,tv⟩
end Go.Proofs.YtpbdohkbiklflaaGreatDoor
namespace Go.Proofs.YtpbdohkbiklflaaGreatDoor
open Go.TM
variable [cP]
set_option maxRecDepth 100000
set_option maxHeartbeats 4000000 in
theorem NN (l:List Int) (hl:∀x∈l,yv x) (at' tick:Int) (bad:Bool) (ha:0≤at'∧at'≤1000000) (ht:0≤tick∧tick≤1099511627776) (hc:(bu l (at'+1) 1000000).tmod 6=4):cL Tryz.prog 19 [fV l,I at',I tick,B bad] [fW (eC l at' tick bad)]:=by
 refine bE aK mixed (aq _) (ar _) Tryz.func19 rfl (by kernel_rfl) rfl ?_
 have Cc:=cB l at' 1000000 hl (by omega) (by omega)
 have pJ:=cB l (at'+1) 1000000 hl (by omega) (by omega)
 obtain ⟨k0,k1⟩:=c5 l at' 1000000 (by omega)
 obtain ⟨w0,w1⟩:=c5 l (at'+1) 1000000 (by omega)
 refine .inl ⟨_,fun _=>Cc.ok,?_⟩
 unfold eC
 generalize bu l at' 1000000=k at *
 generalize bu l (at'+1) 1000000=aQ at *
 obtain ⟨d6,d36,mF,gL,e6,C5,nH,iu,m6,Nx,m7,Ny,m4,Nz,n4,NA,f6,f54,f60,lZ,g6,C6,C7,nI,h9,NB,Cl,AR,h3,IY,h2,DF,i2,NC,ba,bb,cq,cH,ND,z9,z6,NF,z3,z2,cr,cI,NG,o6,s0,xG,xH,xJ,xK,xL,b3,b5,NH,NI,NJ,b9,NK⟩:=tq k0 k1 w0 w1 ht
 refine .inl ⟨_,fun _=>(bz k k0).ok,?_⟩
 repeat first | refine ⟨fun _=>⟨by omega,by omega⟩,?_⟩ | refine ⟨fun _ h=>by omega,?_⟩
 refine .inl ⟨_,fun _=>(bz (k.tdiv 6+1+k.tmod 6) (by omega)).ok,?_⟩
 repeat first | refine ⟨fun _=>⟨by omega,by omega⟩,?_⟩ | refine ⟨fun _ h=>by omega,?_⟩
 refine .inl ⟨_,fun _=>pJ.ok,?_⟩
 repeat first | refine ⟨fun _=>⟨by omega,by omega⟩,?_⟩ | refine ⟨fun _ h=>by omega,?_⟩
 clear e6 C5 nH iu g6 C6 C7 nI d6 d36 mF gL f6 f54 f60 lZ
 refine And.intro (fun h=>absurd ((su h).symm.trans hc) (by decide)) ?_
 intro c0
 have c0:=pQ c0
 refine And.intro (fun h=>absurd ((su h).symm.trans hc) (by decide)) ?_
 intro c1
 have c1:=pQ c1
 refine And.intro (fun h=>absurd ((su h).symm.trans hc) (by decide)) ?_
 intro c2
 have c2:=pQ c2
 refine And.intro (fun h=>absurd ((su h).symm.trans hc) (by decide)) ?_
 intro c3
 have c3:=pQ c3
 refine And.intro ?_ (fun h=>absurd hc (pQ h))
 intro c4
 have c4:=su c4
 have hB:dO k aQ=((aQ.tdiv 6).tmod 11,[⟨aj k,0,(k.tdiv 252).tmod 4,1+(k.tdiv 36).tmod 7⟩]):=by unfold dO; simp only; rw [if_neg (by omega),if_neg (by omega),if_pos (by omega)]
 repeat refine ⟨fun _=>by assumption,?_⟩
 refine Or.inr ?_
 refine Or.inl ?_
 refine ⟨[cD ⟨aj k,0,(k.tdiv 252).tmod 4,1+(k.tdiv 36).tmod 7⟩],rfl,⟨rf,rf,rf,rf,rf,tv⟩,(by simp; rfl),?_⟩
 unfold ke; rw [hB]
 refine ⟨id,fun _=>cq,fun _=>cr,id,fun _=>z9,id,fun _ h=>ax h,?_⟩
 refine And.intro ?_ ?_
 ·intro iG
  have hq:=qt iG
  refine ⟨fun _=>cH,fun _=>cI,fun _=>z3,fun _=>s0,?_⟩
  refine ⟨fun _=>⟨Int.le_refl 0,by simp⟩,[I ((aQ.tdiv 540).tmod 3 - 1)],⟨rf,tv⟩,cD ⟨aj k,0,(k.tdiv 252).tmod 4,1+(k.tdiv 36).tmod 7⟩,rfl,?_⟩
  refine ⟨id,fun _=>cq,fun _=>cr,id,fun _=>z9,id,fun _ h=>ax h,?_⟩
  refine And.intro ?_ ?_
  ·intro h; exact absurd ((qt h).2.symm.trans hq.2) (by decide)
  intro _
  refine ⟨id,fun _=>cq,fun _=>cr,id,fun _=>z9,id,fun _ h=>ax h,?_⟩
  refine And.intro ?_ ?_
  ·intro h; exact absurd ((qt h).2.symm.trans hq.2) (by decide)
  intro _
  refine ⟨id,fun _=>cq,fun _=>cr,id,fun _=>z9,id,fun _ h=>ax h,?_⟩
  refine And.intro ?_ ?_
  ·intro h; exact absurd ((qt h).2.symm.trans hq.2) (by decide)
  intro _
  rw [mn hq]
  exact ⟨rf,tv⟩
 intro iG
 refine ⟨id,fun _=>cq,fun _=>cr,id,fun _=>z9,id,fun _ h=>ax h,?_⟩
 refine And.intro ?_ ?_
 ·intro iN
  have hq:=qt iN
  refine ⟨fun _=>cH,fun _=>cI,fun _=>z2,fun _=>xG,fun _=>xH,?_⟩
  refine ⟨fun _=>⟨Int.le_refl 0,by simp⟩,[I (4 - (aQ.tdiv 540).tmod 2 * 5)],⟨rf,tv⟩,cD ⟨aj k,0,(k.tdiv 252).tmod 4,1+(k.tdiv 36).tmod 7⟩,rfl,?_⟩
  refine ⟨id,fun _=>cq,fun _=>cr,id,fun _=>z9,id,fun _ h=>ax h,?_⟩
  refine And.intro ?_ ?_
  ·intro h; exact absurd ((qt h).2.symm.trans hq.2) (by decide)
  intro _
  refine ⟨id,fun _=>cq,fun _=>cr,id,fun _=>z9,id,fun _ h=>ax h,?_⟩
  refine And.intro ?_ ?_
  ·intro h; exact absurd ((qt h).2.symm.trans hq.2) (by decide)
  intro _
  rw [mo hq]
  exact ⟨rf,tv⟩
 intro iN
 refine ⟨id,fun _=>cq,fun _=>cr,id,fun _=>z9,id,fun _ h=>ax h,?_⟩
 refine And.intro ?_ ?_
 ·intro gC
  have hq:=qt gC
  refine ⟨fun _=>xJ,fun _=>cH,fun _=>cI,fun _=>z3,fun _=>xK,?_⟩
  refine ⟨id,fun _=>cq,fun _=>cr,id,fun _=>z9,id,fun _ h=>ax h,?_⟩
  refine And.intro ?_ ?_
  ·intro h; exact absurd ((qt h).2.symm.trans hq.2) (by decide)
  intro _
  rw [mq hq]
  exact ⟨rf,tv⟩
 intro gC
 refine ⟨id,fun _=>cq,fun _=>cr,id,fun _=>z9,id,fun _ h=>ax h,?_⟩
 refine And.intro ?_ ?_
 ·intro jS
  have hq:=qt jS
  skip
  refine ⟨fun _=>⟨Int.le_refl 0,by simp⟩,cD ⟨aj k,0,(k.tdiv 252).tmod 4,1+(k.tdiv 36).tmod 7⟩,fun _=>rfl,?_⟩
  refine ⟨fun _=>cH,fun _=>cI,fun _=>z2,fun _=>xL,fun _=>⟨by show _≤aj k - (aQ.tdiv 540).tmod 2 * 1073741825; omega,by show aj k - (aQ.tdiv 540).tmod 2 * 1073741825≤_; omega⟩,?_⟩
  refine ⟨fun _=>⟨Int.le_refl 0,by simp⟩,[I (aj k - (aQ.tdiv 540).tmod 2 * 1073741825)],⟨rf,tv⟩,cD ⟨aj k,0,(k.tdiv 252).tmod 4,1+(k.tdiv 36).tmod 7⟩,rfl,?_⟩
  refine ⟨by kernel_rfl,?_⟩
  rw [mr hq]
  exact ⟨rf,tv⟩
 intro jS
 rw [mu (qf iG) (qf iN) (qf gC) (qf jS)]
 exact ⟨rf,tv⟩
set_option maxHeartbeats 4000000 in
theorem NO (l:List Int) (hl:∀x∈l,yv x) (at' tick:Int) (bad:Bool) (ha:0≤at'∧at'≤1000000) (ht:0≤tick∧tick≤1099511627776) (hc:(bu l (at'+1) 1000000).tmod 6=5):cL Tryz.prog 19 [fV l,I at',I tick,B bad] [fW (eC l at' tick bad)]:=by
 refine bE aK mixed (aq _) (ar _) Tryz.func19 rfl (by kernel_rfl) rfl ?_
 have Cc:=cB l at' 1000000 hl (by omega) (by omega)
 have pJ:=cB l (at'+1) 1000000 hl (by omega) (by omega)
 obtain ⟨k0,k1⟩:=c5 l at' 1000000 (by omega)
 obtain ⟨w0,w1⟩:=c5 l (at'+1) 1000000 (by omega)
 refine .inl ⟨_,fun _=>Cc.ok,?_⟩
 unfold eC
 generalize bu l at' 1000000=k at *
 generalize bu l (at'+1) 1000000=aQ at *
 obtain ⟨d6,d36,mF,gL,e6,C5,nH,iu,m6,Nx,m7,Ny,m4,Nz,n4,NA,f6,f54,f60,lZ,g6,C6,C7,nI,h9,NB,Cl,AR,h3,IY,h2,DF,i2,NC,ba,bb,cq,cH,ND,z9,z6,NF,z3,z2,cr,cI,NG,o6,s0,xG,xH,xJ,xK,xL,b3,b5,NH,NI,NJ,b9,NK⟩:=tq k0 k1 w0 w1 ht
 refine .inl ⟨_,fun _=>(bz k k0).ok,?_⟩
 repeat first | refine ⟨fun _=>⟨by omega,by omega⟩,?_⟩ | refine ⟨fun _ h=>by omega,?_⟩
 refine .inl ⟨_,fun _=>(bz (k.tdiv 6+1+k.tmod 6) (by omega)).ok,?_⟩
 repeat first | refine ⟨fun _=>⟨by omega,by omega⟩,?_⟩ | refine ⟨fun _ h=>by omega,?_⟩
 refine .inl ⟨_,fun _=>pJ.ok,?_⟩
 repeat first | refine ⟨fun _=>⟨by omega,by omega⟩,?_⟩ | refine ⟨fun _ h=>by omega,?_⟩
 clear e6 C5 nH iu g6 C6 C7 nI d6 d36 mF gL f6 f54 f60 lZ
 refine And.intro (fun h=>absurd ((su h).symm.trans hc) (by decide)) ?_
 intro c0
 have c0:=pQ c0
 refine And.intro (fun h=>absurd ((su h).symm.trans hc) (by decide)) ?_
 intro c1
 have c1:=pQ c1
 refine And.intro (fun h=>absurd ((su h).symm.trans hc) (by decide)) ?_
 intro c2
 have c2:=pQ c2
 refine And.intro (fun h=>absurd ((su h).symm.trans hc) (by decide)) ?_
 intro c3
 have c3:=pQ c3
 refine And.intro (fun h=>absurd ((su h).symm.trans hc) (by decide)) ?_
 intro c4
 have c4:=pQ c4
 have hB:dO k aQ=(2,[⟨0,aj k,(k.tdiv 252).tmod 4,1+(k.tdiv 36).tmod 7⟩,⟨aj k,3 * aj k,(k.tdiv 252).tmod 4,1+(k.tdiv 36).tmod 7⟩,⟨3 * aj k,aj k,(k.tdiv 252).tmod 4,1⟩]):=by unfold dO; simp only; rw [if_neg (by omega),if_neg (by omega),if_neg (by omega)]
 repeat refine ⟨fun _=>by assumption,?_⟩
 refine Or.inr ?_
 refine Or.inl ?_
 refine ⟨[cD ⟨0,aj k,(k.tdiv 252).tmod 4,1+(k.tdiv 36).tmod 7⟩,cD ⟨aj k,3 * aj k,(k.tdiv 252).tmod 4,1+(k.tdiv 36).tmod 7⟩,cD ⟨3 * aj k,aj k,(k.tdiv 252).tmod 4,1⟩],rfl,⟨rf,rf,rf,rf,rf,rf,rf,rf,rf,rf,rf,rf,rf,rf,rf,tv⟩,(by simp; exact ⟨rfl,rfl,rfl⟩),?_⟩
 unfold ke; rw [hB]
 refine ⟨id,fun _=>cq,fun _=>cr,id,fun _=>z9,id,fun _ h=>ax h,?_⟩
 refine And.intro ?_ ?_
 ·intro iG
  have hq:=qt iG
  refine ⟨fun _=>cH,fun _=>cI,fun _=>z3,fun _=>s0,?_⟩
  refine ⟨fun _=>⟨Int.le_refl 0,by simp⟩,[I ((aQ.tdiv 540).tmod 3 - 1)],⟨rf,tv⟩,cD ⟨0,aj k,(k.tdiv 252).tmod 4,1+(k.tdiv 36).tmod 7⟩,rfl,?_⟩
  refine ⟨id,fun _=>cq,fun _=>cr,id,fun _=>z9,id,fun _ h=>ax h,?_⟩
  refine And.intro ?_ ?_
  ·intro h; exact absurd ((qt h).2.symm.trans hq.2) (by decide)
  intro _
  refine ⟨id,fun _=>cq,fun _=>cr,id,fun _=>z9,id,fun _ h=>ax h,?_⟩
  refine And.intro ?_ ?_
  ·intro h; exact absurd ((qt h).2.symm.trans hq.2) (by decide)
  intro _
  refine ⟨id,fun _=>cq,fun _=>cr,id,fun _=>z9,id,fun _ h=>ax h,?_⟩
  refine And.intro ?_ ?_
  ·intro h; exact absurd ((qt h).2.symm.trans hq.2) (by decide)
  intro _
  rw [mn hq]
  exact ⟨rf,tv⟩
 intro iG
 refine ⟨id,fun _=>cq,fun _=>cr,id,fun _=>z9,id,fun _ h=>ax h,?_⟩
 refine And.intro ?_ ?_
 ·intro iN
  have hq:=qt iN
  refine ⟨fun _=>cH,fun _=>cI,fun _=>z2,fun _=>xG,fun _=>xH,?_⟩
  refine ⟨fun _=>⟨Int.le_refl 0,by simp⟩,[I (4 - (aQ.tdiv 540).tmod 2 * 5)],⟨rf,tv⟩,cD ⟨0,aj k,(k.tdiv 252).tmod 4,1+(k.tdiv 36).tmod 7⟩,rfl,?_⟩
  refine ⟨id,fun _=>cq,fun _=>cr,id,fun _=>z9,id,fun _ h=>ax h,?_⟩
  refine And.intro ?_ ?_
  ·intro h; exact absurd ((qt h).2.symm.trans hq.2) (by decide)
  intro _
  refine ⟨id,fun _=>cq,fun _=>cr,id,fun _=>z9,id,fun _ h=>ax h,?_⟩
  refine And.intro ?_ ?_
  ·intro h; exact absurd ((qt h).2.symm.trans hq.2) (by decide)
  intro _
  rw [mo hq]
  exact ⟨rf,tv⟩
 intro iN
 refine ⟨id,fun _=>cq,fun _=>cr,id,fun _=>z9,id,fun _ h=>ax h,?_⟩
 refine And.intro ?_ ?_
 ·intro gC
  have hq:=qt gC
  refine ⟨fun _=>xJ,fun _=>cH,fun _=>cI,fun _=>z3,fun _=>xK,?_⟩
  refine ⟨id,fun _=>cq,fun _=>cr,id,fun _=>z9,id,fun _ h=>ax h,?_⟩
  refine And.intro ?_ ?_
  ·intro h; exact absurd ((qt h).2.symm.trans hq.2) (by decide)
  intro _
  rw [mq hq]
  exact ⟨rf,tv⟩
 intro gC
 refine ⟨id,fun _=>cq,fun _=>cr,id,fun _=>z9,id,fun _ h=>ax h,?_⟩
 refine And.intro ?_ ?_
 ·intro jS
  have hq:=qt jS
  skip
  refine ⟨fun _=>⟨Int.le_refl 0,by simp⟩,cD ⟨0,aj k,(k.tdiv 252).tmod 4,1+(k.tdiv 36).tmod 7⟩,fun _=>rfl,?_⟩
  refine ⟨fun _=>cH,fun _=>cI,fun _=>z2,fun _=>xL,fun _=>⟨by show _≤0 - (aQ.tdiv 540).tmod 2 * 1073741825; omega,by show 0 - (aQ.tdiv 540).tmod 2 * 1073741825≤_; omega⟩,?_⟩
  refine ⟨fun _=>⟨Int.le_refl 0,by simp⟩,[I (0 - (aQ.tdiv 540).tmod 2 * 1073741825)],⟨rf,tv⟩,cD ⟨0,aj k,(k.tdiv 252).tmod 4,1+(k.tdiv 36).tmod 7⟩,rfl,?_⟩
  refine ⟨by kernel_rfl,?_⟩
  rw [mr hq]
  exact ⟨rf,tv⟩
 intro jS
 rw [mu (qf iG) (qf iN) (qf gC) (qf jS)]
 exact ⟨rf,tv⟩
end Go.Proofs.YtpbdohkbiklflaaGreatDoor
namespace Go.Proofs.YtpbdohkbiklflaaGreatDoor
open Go.TM
variable [cP]
set_option maxRecDepth 100000
set_option maxHeartbeats 4000000 in
theorem Lp (l:List Int) (hl:∀x∈l,yv x) (at' tick:Int) (bad:Bool) (ha:0≤at'∧at'≤1000000) (ht:0≤tick∧tick≤1099511627776) (hc:(bu l (at'+1) 1000000).tmod 6=2) (hd:aj (bu l at' 1000000)=aj ((bu l at' 1000000).tdiv 6+1+(bu l at' 1000000).tmod 6)):cL Tryz.prog 19 [fV l,I at',I tick,B bad] [fW (eC l at' tick bad)]:=by
 refine bE aK mixed (aq _) (ar _) Tryz.func19 rfl (by kernel_rfl) rfl ?_
 have Cc:=cB l at' 1000000 hl (by omega) (by omega)
 have pJ:=cB l (at'+1) 1000000 hl (by omega) (by omega)
 obtain ⟨k0,k1⟩:=c5 l at' 1000000 (by omega)
 obtain ⟨w0,w1⟩:=c5 l (at'+1) 1000000 (by omega)
 refine .inl ⟨_,fun _=>Cc.ok,?_⟩
 unfold eC
 generalize bu l at' 1000000=k at *
 generalize bu l (at'+1) 1000000=aQ at *
 obtain ⟨d6,d36,mF,gL,e6,C5,nH,iu,m6,Nx,m7,Ny,m4,Nz,n4,NA,f6,f54,f60,lZ,g6,C6,C7,nI,h9,NB,Cl,AR,h3,IY,h2,DF,i2,NC,ba,bb,cq,cH,ND,z9,z6,NF,z3,z2,cr,cI,NG,o6,s0,xG,xH,xJ,xK,xL,b3,b5,NH,NI,NJ,b9,NK⟩:=tq k0 k1 w0 w1 ht
 refine .inl ⟨_,fun _=>(bz k k0).ok,?_⟩
 repeat first | refine ⟨fun _=>⟨by omega,by omega⟩,?_⟩ | refine ⟨fun _ h=>by omega,?_⟩
 refine .inl ⟨_,fun _=>(bz (k.tdiv 6+1+k.tmod 6) (by omega)).ok,?_⟩
 repeat first | refine ⟨fun _=>⟨by omega,by omega⟩,?_⟩ | refine ⟨fun _ h=>by omega,?_⟩
 refine .inl ⟨_,fun _=>pJ.ok,?_⟩
 repeat first | refine ⟨fun _=>⟨by omega,by omega⟩,?_⟩ | refine ⟨fun _ h=>by omega,?_⟩
 clear e6 C5 nH iu g6 C6 C7 nI d6 d36 mF gL f6 f54 f60 lZ
 refine And.intro (fun h=>absurd ((su h).symm.trans hc) (by decide)) ?_
 intro c0
 have c0:=pQ c0
 refine And.intro (fun h=>absurd ((su h).symm.trans hc) (by decide)) ?_
 intro c1
 have c1:=pQ c1
 refine And.intro ?_ (fun h=>absurd hc (pQ h))
 intro c2
 have c2:=su c2
 refine And.intro ?_ (fun h=>absurd c2 (pQ h))
 intro _
 refine And.intro ?_ (fun h=>absurd hd (by simpa using h))
 ·intro sG
  have sG:aj k=aj (k.tdiv 6+1+k.tmod 6):=by simpa using sG
  repeat refine ⟨fun _=>by assumption,?_⟩
  refine Or.inr ?_
  refine Or.inl ?_
  refine ⟨[cD ⟨aj k,aj k+1,((k.tdiv 252).tmod 4).tdiv 2 * 2,1+(k.tdiv 36).tmod 7⟩,cD ⟨aj k+1,aj k,1,1+(aQ.tdiv 6).tmod 9⟩],rfl,⟨rf,rf,rf,rf,rf,rf,rf,rf,rf,rf,tv⟩,(by simp; exact ⟨rfl,rfl⟩),?_⟩
  repeat refine ⟨fun _=>by assumption,?_⟩
  refine And.intro ?_ ?_
  ·intro pK
   have pK:(aQ.tdiv 54).tmod 2=1:=by simpa using pK
   have hB:dO k aQ=(2,[⟨aj k+1,aj k,1,1+(aQ.tdiv 6).tmod 9⟩,⟨aj k,aj k+1,((k.tdiv 252).tmod 4).tdiv 2 * 2,1+(k.tdiv 36).tmod 7⟩]):=by unfold dO; simp only; rw [if_neg (by omega),if_pos (by omega),if_pos sG,if_pos pK]
   refine ⟨fun _=>⟨by decide,by simp⟩,cD ⟨aj k+1,aj k,1,1+(aQ.tdiv 6).tmod 9⟩,fun _=>rfl,?_⟩
   refine ⟨fun _=>⟨Int.le_refl 0,by simp⟩,cD ⟨aj k,aj k+1,((k.tdiv 252).tmod 4).tdiv 2 * 2,1+(k.tdiv 36).tmod 7⟩,fun _=>rfl,?_⟩
   refine Or.inr ?_
   refine Or.inl ?_
   refine ⟨[cD ⟨aj k+1,aj k,1,1+(aQ.tdiv 6).tmod 9⟩,cD ⟨aj k,aj k+1,((k.tdiv 252).tmod 4).tdiv 2 * 2,1+(k.tdiv 36).tmod 7⟩],rfl,⟨rf,rf,rf,rf,rf,rf,rf,rf,rf,rf,tv⟩,(by simp; exact ⟨rfl,rfl⟩),?_⟩
   refine ⟨by kernel_rfl,?_⟩
   unfold ke; rw [hB]
   refine ⟨id,fun _=>cq,fun _=>cr,id,fun _=>z9,id,fun _ h=>ax h,?_⟩
   refine And.intro ?_ ?_
   ·intro iG
    have hq:=qt iG
    refine ⟨fun _=>cH,fun _=>cI,fun _=>z3,fun _=>s0,?_⟩
    refine ⟨fun _=>⟨Int.le_refl 0,by simp⟩,[I ((aQ.tdiv 540).tmod 3 - 1)],⟨rf,tv⟩,cD ⟨aj k+1,aj k,1,1+(aQ.tdiv 6).tmod 9⟩,rfl,?_⟩
    refine ⟨id,fun _=>cq,fun _=>cr,id,fun _=>z9,id,fun _ h=>ax h,?_⟩
    refine And.intro ?_ ?_
    ·intro h; exact absurd ((qt h).2.symm.trans hq.2) (by decide)
    intro _
    refine ⟨id,fun _=>cq,fun _=>cr,id,fun _=>z9,id,fun _ h=>ax h,?_⟩
    refine And.intro ?_ ?_
    ·intro h; exact absurd ((qt h).2.symm.trans hq.2) (by decide)
    intro _
    refine ⟨id,fun _=>cq,fun _=>cr,id,fun _=>z9,id,fun _ h=>ax h,?_⟩
    refine And.intro ?_ ?_
    ·intro h; exact absurd ((qt h).2.symm.trans hq.2) (by decide)
    intro _
    rw [mn hq]
    exact ⟨rf,tv⟩
   intro iG
   refine ⟨id,fun _=>cq,fun _=>cr,id,fun _=>z9,id,fun _ h=>ax h,?_⟩
   refine And.intro ?_ ?_
   ·intro iN
    have hq:=qt iN
    refine ⟨fun _=>cH,fun _=>cI,fun _=>z2,fun _=>xG,fun _=>xH,?_⟩
    refine ⟨fun _=>⟨Int.le_refl 0,by simp⟩,[I (4 - (aQ.tdiv 540).tmod 2 * 5)],⟨rf,tv⟩,cD ⟨aj k+1,aj k,1,1+(aQ.tdiv 6).tmod 9⟩,rfl,?_⟩
    refine ⟨id,fun _=>cq,fun _=>cr,id,fun _=>z9,id,fun _ h=>ax h,?_⟩
    refine And.intro ?_ ?_
    ·intro h; exact absurd ((qt h).2.symm.trans hq.2) (by decide)
    intro _
    refine ⟨id,fun _=>cq,fun _=>cr,id,fun _=>z9,id,fun _ h=>ax h,?_⟩
    refine And.intro ?_ ?_
    ·intro h; exact absurd ((qt h).2.symm.trans hq.2) (by decide)
    intro _
    rw [mo hq]
    exact ⟨rf,tv⟩
   intro iN
   refine ⟨id,fun _=>cq,fun _=>cr,id,fun _=>z9,id,fun _ h=>ax h,?_⟩
   refine And.intro ?_ ?_
   ·intro gC
    have hq:=qt gC
    refine ⟨fun _=>xJ,fun _=>cH,fun _=>cI,fun _=>z3,fun _=>xK,?_⟩
    refine ⟨id,fun _=>cq,fun _=>cr,id,fun _=>z9,id,fun _ h=>ax h,?_⟩
    refine And.intro ?_ ?_
    ·intro h; exact absurd ((qt h).2.symm.trans hq.2) (by decide)
    intro _
    rw [mq hq]
    exact ⟨rf,tv⟩
   intro gC
   refine ⟨id,fun _=>cq,fun _=>cr,id,fun _=>z9,id,fun _ h=>ax h,?_⟩
   refine And.intro ?_ ?_
   ·intro jS
    have hq:=qt jS
    skip
    refine ⟨fun _=>⟨Int.le_refl 0,by simp⟩,cD ⟨aj k+1,aj k,1,1+(aQ.tdiv 6).tmod 9⟩,fun _=>rfl,?_⟩
    refine ⟨fun _=>cH,fun _=>cI,fun _=>z2,fun _=>xL,fun _=>⟨by show _≤aj k+1 - (aQ.tdiv 540).tmod 2 * 1073741825; omega,by show aj k+1 - (aQ.tdiv 540).tmod 2 * 1073741825≤_; omega⟩,?_⟩
    refine ⟨fun _=>⟨Int.le_refl 0,by simp⟩,[I (aj k+1 - (aQ.tdiv 540).tmod 2 * 1073741825)],⟨rf,tv⟩,cD ⟨aj k+1,aj k,1,1+(aQ.tdiv 6).tmod 9⟩,rfl,?_⟩
    refine ⟨by kernel_rfl,?_⟩
    rw [mr hq]
    exact ⟨rf,tv⟩
   intro jS
   rw [mu (qf iG) (qf iN) (qf gC) (qf jS)]
   exact ⟨rf,tv⟩
  ·intro pK
   have pK:¬ (aQ.tdiv 54).tmod 2=1:=by simpa using pK
   have hB:dO k aQ=(2,[⟨aj k,aj k+1,((k.tdiv 252).tmod 4).tdiv 2 * 2,1+(k.tdiv 36).tmod 7⟩,⟨aj k+1,aj k,1,1+(aQ.tdiv 6).tmod 9⟩]):=by unfold dO; simp only; rw [if_neg (by omega),if_pos (by omega),if_pos sG,if_neg pK]
   unfold ke; rw [hB]
   refine ⟨id,fun _=>cq,fun _=>cr,id,fun _=>z9,id,fun _ h=>ax h,?_⟩
   refine And.intro ?_ ?_
   ·intro iG
    have hq:=qt iG
    refine ⟨fun _=>cH,fun _=>cI,fun _=>z3,fun _=>s0,?_⟩
    refine ⟨fun _=>⟨Int.le_refl 0,by simp⟩,[I ((aQ.tdiv 540).tmod 3 - 1)],⟨rf,tv⟩,cD ⟨aj k,aj k+1,((k.tdiv 252).tmod 4).tdiv 2 * 2,1+(k.tdiv 36).tmod 7⟩,rfl,?_⟩
    refine ⟨id,fun _=>cq,fun _=>cr,id,fun _=>z9,id,fun _ h=>ax h,?_⟩
    refine And.intro ?_ ?_
    ·intro h; exact absurd ((qt h).2.symm.trans hq.2) (by decide)
    intro _
    refine ⟨id,fun _=>cq,fun _=>cr,id,fun _=>z9,id,fun _ h=>ax h,?_⟩
    refine And.intro ?_ ?_
    ·intro h; exact absurd ((qt h).2.symm.trans hq.2) (by decide)
    intro _
    refine ⟨id,fun _=>cq,fun _=>cr,id,fun _=>z9,id,fun _ h=>ax h,?_⟩
    refine And.intro ?_ ?_
    ·intro h; exact absurd ((qt h).2.symm.trans hq.2) (by decide)
    intro _
    rw [mn hq]
    exact ⟨rf,tv⟩
   intro iG
   refine ⟨id,fun _=>cq,fun _=>cr,id,fun _=>z9,id,fun _ h=>ax h,?_⟩
   refine And.intro ?_ ?_
   ·intro iN
    have hq:=qt iN
    refine ⟨fun _=>cH,fun _=>cI,fun _=>z2,fun _=>xG,fun _=>xH,?_⟩
    refine ⟨fun _=>⟨Int.le_refl 0,by simp⟩,[I (4 - (aQ.tdiv 540).tmod 2 * 5)],⟨rf,tv⟩,cD ⟨aj k,aj k+1,((k.tdiv 252).tmod 4).tdiv 2 * 2,1+(k.tdiv 36).tmod 7⟩,rfl,?_⟩
    refine ⟨id,fun _=>cq,fun _=>cr,id,fun _=>z9,id,fun _ h=>ax h,?_⟩
    refine And.intro ?_ ?_
    ·intro h; exact absurd ((qt h).2.symm.trans hq.2) (by decide)
    intro _
    refine ⟨id,fun _=>cq,fun _=>cr,id,fun _=>z9,id,fun _ h=>ax h,?_⟩
    refine And.intro ?_ ?_
    ·intro h; exact absurd ((qt h).2.symm.trans hq.2) (by decide)
    intro _
    rw [mo hq]
    exact ⟨rf,tv⟩
   intro iN
   refine ⟨id,fun _=>cq,fun _=>cr,id,fun _=>z9,id,fun _ h=>ax h,?_⟩
   refine And.intro ?_ ?_
   ·intro gC
    have hq:=qt gC
    refine ⟨fun _=>xJ,fun _=>cH,fun _=>cI,fun _=>z3,fun _=>xK,?_⟩
    refine ⟨id,fun _=>cq,fun _=>cr,id,fun _=>z9,id,fun _ h=>ax h,?_⟩
    refine And.intro ?_ ?_
    ·intro h; exact absurd ((qt h).2.symm.trans hq.2) (by decide)
    intro _
    rw [mq hq]
    exact ⟨rf,tv⟩
   intro gC
   refine ⟨id,fun _=>cq,fun _=>cr,id,fun _=>z9,id,fun _ h=>ax h,?_⟩
   refine And.intro ?_ ?_
   ·intro jS
    have hq:=qt jS
    skip
    refine ⟨fun _=>⟨Int.le_refl 0,by simp⟩,cD ⟨aj k,aj k+1,((k.tdiv 252).tmod 4).tdiv 2 * 2,1+(k.tdiv 36).tmod 7⟩,fun _=>rfl,?_⟩
    refine ⟨fun _=>cH,fun _=>cI,fun _=>z2,fun _=>xL,fun _=>⟨by show _≤aj k - (aQ.tdiv 540).tmod 2 * 1073741825; omega,by show aj k - (aQ.tdiv 540).tmod 2 * 1073741825≤_; omega⟩,?_⟩
    refine ⟨fun _=>⟨Int.le_refl 0,by simp⟩,[I (aj k - (aQ.tdiv 540).tmod 2 * 1073741825)],⟨rf,tv⟩,cD ⟨aj k,aj k+1,((k.tdiv 252).tmod 4).tdiv 2 * 2,1+(k.tdiv 36).tmod 7⟩,rfl,?_⟩
    refine ⟨by kernel_rfl,?_⟩
    rw [mr hq]
    exact ⟨rf,tv⟩
   intro jS
   rw [mu (qf iG) (qf iN) (qf gC) (qf jS)]
   exact ⟨rf,tv⟩
end Go.Proofs.YtpbdohkbiklflaaGreatDoor
namespace Go.Proofs.YtpbdohkbiklflaaGreatDoor
open Go.TM
variable [cP]
set_option maxRecDepth 100000
set_option maxHeartbeats 4000000 in
theorem Lq (l:List Int) (hl:∀x∈l,yv x) (at' tick:Int) (bad:Bool) (ha:0≤at'∧at'≤1000000) (ht:0≤tick∧tick≤1099511627776) (hc:(bu l (at'+1) 1000000).tmod 6=2) (hd:¬ aj (bu l at' 1000000)=aj ((bu l at' 1000000).tdiv 6+1+(bu l at' 1000000).tmod 6)):cL Tryz.prog 19 [fV l,I at',I tick,B bad] [fW (eC l at' tick bad)]:=by
 refine bE aK mixed (aq _) (ar _) Tryz.func19 rfl (by kernel_rfl) rfl ?_
 have Cc:=cB l at' 1000000 hl (by omega) (by omega)
 have pJ:=cB l (at'+1) 1000000 hl (by omega) (by omega)
 obtain ⟨k0,k1⟩:=c5 l at' 1000000 (by omega)
 obtain ⟨w0,w1⟩:=c5 l (at'+1) 1000000 (by omega)
 refine .inl ⟨_,fun _=>Cc.ok,?_⟩
 unfold eC
 generalize bu l at' 1000000=k at *
 generalize bu l (at'+1) 1000000=aQ at *
 obtain ⟨d6,d36,mF,gL,e6,C5,nH,iu,m6,Nx,m7,Ny,m4,Nz,n4,NA,f6,f54,f60,lZ,g6,C6,C7,nI,h9,NB,Cl,AR,h3,IY,h2,DF,i2,NC,ba,bb,cq,cH,ND,z9,z6,NF,z3,z2,cr,cI,NG,o6,s0,xG,xH,xJ,xK,xL,b3,b5,NH,NI,NJ,b9,NK⟩:=tq k0 k1 w0 w1 ht
 refine .inl ⟨_,fun _=>(bz k k0).ok,?_⟩
 repeat first | refine ⟨fun _=>⟨by omega,by omega⟩,?_⟩ | refine ⟨fun _ h=>by omega,?_⟩
 refine .inl ⟨_,fun _=>(bz (k.tdiv 6+1+k.tmod 6) (by omega)).ok,?_⟩
 repeat first | refine ⟨fun _=>⟨by omega,by omega⟩,?_⟩ | refine ⟨fun _ h=>by omega,?_⟩
 refine .inl ⟨_,fun _=>pJ.ok,?_⟩
 repeat first | refine ⟨fun _=>⟨by omega,by omega⟩,?_⟩ | refine ⟨fun _ h=>by omega,?_⟩
 clear e6 C5 nH iu g6 C6 C7 nI d6 d36 mF gL f6 f54 f60 lZ
 refine And.intro (fun h=>absurd ((su h).symm.trans hc) (by decide)) ?_
 intro c0
 have c0:=pQ c0
 refine And.intro (fun h=>absurd ((su h).symm.trans hc) (by decide)) ?_
 intro c1
 have c1:=pQ c1
 refine And.intro ?_ (fun h=>absurd hc (pQ h))
 intro c2
 have c2:=su c2
 refine And.intro ?_ (fun h=>absurd c2 (pQ h))
 intro _
 refine And.intro (fun h=>absurd (by simpa using h) hd) ?_
 ·intro sG
  have sG:¬ aj k=aj (k.tdiv 6+1+k.tmod 6):=by simpa using sG
  repeat refine ⟨fun _=>by assumption,?_⟩
  refine Or.inr ?_
  refine Or.inl ?_
  refine ⟨[cD ⟨aj k,aj (k.tdiv 6+1+k.tmod 6),((k.tdiv 252).tmod 4).tdiv 2 * 2,1+(k.tdiv 36).tmod 7⟩,cD ⟨aj (k.tdiv 6+1+k.tmod 6),aj k,1,1+(aQ.tdiv 6).tmod 9⟩],rfl,⟨rf,rf,rf,rf,rf,rf,rf,rf,rf,rf,tv⟩,(by simp; exact ⟨rfl,rfl⟩),?_⟩
  repeat refine ⟨fun _=>by assumption,?_⟩
  refine And.intro ?_ ?_
  ·intro pK
   have pK:(aQ.tdiv 54).tmod 2=1:=by simpa using pK
   have hB:dO k aQ=(2,[⟨aj (k.tdiv 6+1+k.tmod 6),aj k,1,1+(aQ.tdiv 6).tmod 9⟩,⟨aj k,aj (k.tdiv 6+1+k.tmod 6),((k.tdiv 252).tmod 4).tdiv 2 * 2,1+(k.tdiv 36).tmod 7⟩]):=by unfold dO; simp only; rw [if_neg (by omega),if_pos (by omega),if_neg sG,if_pos pK]
   refine ⟨fun _=>⟨by decide,by simp⟩,cD ⟨aj (k.tdiv 6+1+k.tmod 6),aj k,1,1+(aQ.tdiv 6).tmod 9⟩,fun _=>rfl,?_⟩
   refine ⟨fun _=>⟨Int.le_refl 0,by simp⟩,cD ⟨aj k,aj (k.tdiv 6+1+k.tmod 6),((k.tdiv 252).tmod 4).tdiv 2 * 2,1+(k.tdiv 36).tmod 7⟩,fun _=>rfl,?_⟩
   refine Or.inr ?_
   refine Or.inl ?_
   refine ⟨[cD ⟨aj (k.tdiv 6+1+k.tmod 6),aj k,1,1+(aQ.tdiv 6).tmod 9⟩,cD ⟨aj k,aj (k.tdiv 6+1+k.tmod 6),((k.tdiv 252).tmod 4).tdiv 2 * 2,1+(k.tdiv 36).tmod 7⟩],rfl,⟨rf,rf,rf,rf,rf,rf,rf,rf,rf,rf,tv⟩,(by simp; exact ⟨rfl,rfl⟩),?_⟩
   refine ⟨by kernel_rfl,?_⟩
   unfold ke; rw [hB]
   refine ⟨id,fun _=>cq,fun _=>cr,id,fun _=>z9,id,fun _ h=>ax h,?_⟩
   refine And.intro ?_ ?_
   ·intro iG
    have hq:=qt iG
    refine ⟨fun _=>cH,fun _=>cI,fun _=>z3,fun _=>s0,?_⟩
    refine ⟨fun _=>⟨Int.le_refl 0,by simp⟩,[I ((aQ.tdiv 540).tmod 3 - 1)],⟨rf,tv⟩,cD ⟨aj (k.tdiv 6+1+k.tmod 6),aj k,1,1+(aQ.tdiv 6).tmod 9⟩,rfl,?_⟩
    refine ⟨id,fun _=>cq,fun _=>cr,id,fun _=>z9,id,fun _ h=>ax h,?_⟩
    refine And.intro ?_ ?_
    ·intro h; exact absurd ((qt h).2.symm.trans hq.2) (by decide)
    intro _
    refine ⟨id,fun _=>cq,fun _=>cr,id,fun _=>z9,id,fun _ h=>ax h,?_⟩
    refine And.intro ?_ ?_
    ·intro h; exact absurd ((qt h).2.symm.trans hq.2) (by decide)
    intro _
    refine ⟨id,fun _=>cq,fun _=>cr,id,fun _=>z9,id,fun _ h=>ax h,?_⟩
    refine And.intro ?_ ?_
    ·intro h; exact absurd ((qt h).2.symm.trans hq.2) (by decide)
    intro _
    rw [mn hq]
    exact ⟨rf,tv⟩
   intro iG
   refine ⟨id,fun _=>cq,fun _=>cr,id,fun _=>z9,id,fun _ h=>ax h,?_⟩
   refine And.intro ?_ ?_
   ·intro iN
    have hq:=qt iN
    refine ⟨fun _=>cH,fun _=>cI,fun _=>z2,fun _=>xG,fun _=>xH,?_⟩
    refine ⟨fun _=>⟨Int.le_refl 0,by simp⟩,[I (4 - (aQ.tdiv 540).tmod 2 * 5)],⟨rf,tv⟩,cD ⟨aj (k.tdiv 6+1+k.tmod 6),aj k,1,1+(aQ.tdiv 6).tmod 9⟩,rfl,?_⟩
    refine ⟨id,fun _=>cq,fun _=>cr,id,fun _=>z9,id,fun _ h=>ax h,?_⟩
    refine And.intro ?_ ?_
    ·intro h; exact absurd ((qt h).2.symm.trans hq.2) (by decide)
    intro _
    refine ⟨id,fun _=>cq,fun _=>cr,id,fun _=>z9,id,fun _ h=>ax h,?_⟩
    refine And.intro ?_ ?_
    ·intro h; exact absurd ((qt h).2.symm.trans hq.2) (by decide)
    intro _
    rw [mo hq]
    exact ⟨rf,tv⟩
   intro iN
   refine ⟨id,fun _=>cq,fun _=>cr,id,fun _=>z9,id,fun _ h=>ax h,?_⟩
   refine And.intro ?_ ?_
   ·intro gC
    have hq:=qt gC
    refine ⟨fun _=>xJ,fun _=>cH,fun _=>cI,fun _=>z3,fun _=>xK,?_⟩
    refine ⟨id,fun _=>cq,fun _=>cr,id,fun _=>z9,id,fun _ h=>ax h,?_⟩
    refine And.intro ?_ ?_
    ·intro h; exact absurd ((qt h).2.symm.trans hq.2) (by decide)
    intro _
    rw [mq hq]
    exact ⟨rf,tv⟩
   intro gC
   refine ⟨id,fun _=>cq,fun _=>cr,id,fun _=>z9,id,fun _ h=>ax h,?_⟩
   refine And.intro ?_ ?_
   ·intro jS
    have hq:=qt jS
    skip
    refine ⟨fun _=>⟨Int.le_refl 0,by simp⟩,cD ⟨aj (k.tdiv 6+1+k.tmod 6),aj k,1,1+(aQ.tdiv 6).tmod 9⟩,fun _=>rfl,?_⟩
    refine ⟨fun _=>cH,fun _=>cI,fun _=>z2,fun _=>xL,fun _=>⟨by show _≤aj (k.tdiv 6+1+k.tmod 6) - (aQ.tdiv 540).tmod 2 * 1073741825; omega,by show aj (k.tdiv 6+1+k.tmod 6) - (aQ.tdiv 540).tmod 2 * 1073741825≤_; omega⟩,?_⟩
    refine ⟨fun _=>⟨Int.le_refl 0,by simp⟩,[I (aj (k.tdiv 6+1+k.tmod 6) - (aQ.tdiv 540).tmod 2 * 1073741825)],⟨rf,tv⟩,cD ⟨aj (k.tdiv 6+1+k.tmod 6),aj k,1,1+(aQ.tdiv 6).tmod 9⟩,rfl,?_⟩
    refine ⟨by kernel_rfl,?_⟩
    rw [mr hq]
    exact ⟨rf,tv⟩
   intro jS
   rw [mu (qf iG) (qf iN) (qf gC) (qf jS)]
   exact ⟨rf,tv⟩
  ·intro pK
   have pK:¬ (aQ.tdiv 54).tmod 2=1:=by simpa using pK
   have hB:dO k aQ=(2,[⟨aj k,aj (k.tdiv 6+1+k.tmod 6),((k.tdiv 252).tmod 4).tdiv 2 * 2,1+(k.tdiv 36).tmod 7⟩,⟨aj (k.tdiv 6+1+k.tmod 6),aj k,1,1+(aQ.tdiv 6).tmod 9⟩]):=by unfold dO; simp only; rw [if_neg (by omega),if_pos (by omega),if_neg sG,if_neg pK]
   unfold ke; rw [hB]
   refine ⟨id,fun _=>cq,fun _=>cr,id,fun _=>z9,id,fun _ h=>ax h,?_⟩
   refine And.intro ?_ ?_
   ·intro iG
    have hq:=qt iG
    refine ⟨fun _=>cH,fun _=>cI,fun _=>z3,fun _=>s0,?_⟩
    refine ⟨fun _=>⟨Int.le_refl 0,by simp⟩,[I ((aQ.tdiv 540).tmod 3 - 1)],⟨rf,tv⟩,cD ⟨aj k,aj (k.tdiv 6+1+k.tmod 6),((k.tdiv 252).tmod 4).tdiv 2 * 2,1+(k.tdiv 36).tmod 7⟩,rfl,?_⟩
    refine ⟨id,fun _=>cq,fun _=>cr,id,fun _=>z9,id,fun _ h=>ax h,?_⟩
    refine And.intro ?_ ?_
    ·intro h; exact absurd ((qt h).2.symm.trans hq.2) (by decide)
    intro _
    refine ⟨id,fun _=>cq,fun _=>cr,id,fun _=>z9,id,fun _ h=>ax h,?_⟩
    refine And.intro ?_ ?_
    ·intro h; exact absurd ((qt h).2.symm.trans hq.2) (by decide)
    intro _
    refine ⟨id,fun _=>cq,fun _=>cr,id,fun _=>z9,id,fun _ h=>ax h,?_⟩
    refine And.intro ?_ ?_
    ·intro h; exact absurd ((qt h).2.symm.trans hq.2) (by decide)
    intro _
    rw [mn hq]
    exact ⟨rf,tv⟩
   intro iG
   refine ⟨id,fun _=>cq,fun _=>cr,id,fun _=>z9,id,fun _ h=>ax h,?_⟩
   refine And.intro ?_ ?_
   ·intro iN
    have hq:=qt iN
    refine ⟨fun _=>cH,fun _=>cI,fun _=>z2,fun _=>xG,fun _=>xH,?_⟩
    refine ⟨fun _=>⟨Int.le_refl 0,by simp⟩,[I (4 - (aQ.tdiv 540).tmod 2 * 5)],⟨rf,tv⟩,cD ⟨aj k,aj (k.tdiv 6+1+k.tmod 6),((k.tdiv 252).tmod 4).tdiv 2 * 2,1+(k.tdiv 36).tmod 7⟩,rfl,?_⟩
    refine ⟨id,fun _=>cq,fun _=>cr,id,fun _=>z9,id,fun _ h=>ax h,?_⟩
    refine And.intro ?_ ?_
    ·intro h; exact absurd ((qt h).2.symm.trans hq.2) (by decide)
    intro _
    refine ⟨id,fun _=>cq,fun _=>cr,id,fun _=>z9,id,fun _ h=>ax h,?_⟩
    refine And.intro ?_ ?_
    ·intro h; exact absurd ((qt h).2.symm.trans hq.2) (by decide)
    intro _
    rw [mo hq]
    exact ⟨rf,tv⟩
   intro iN
   refine ⟨id,fun _=>cq,fun _=>cr,id,fun _=>z9,id,fun _ h=>ax h,?_⟩
   refine And.intro ?_ ?_
   ·intro gC
    have hq:=qt gC
    refine ⟨fun _=>xJ,fun _=>cH,fun _=>cI,fun _=>z3,fun _=>xK,?_⟩
    refine ⟨id,fun _=>cq,fun _=>cr,id,fun _=>z9,id,fun _ h=>ax h,?_⟩
    refine And.intro ?_ ?_
    ·intro h; exact absurd ((qt h).2.symm.trans hq.2) (by decide)
    intro _
    rw [mq hq]
    exact ⟨rf,tv⟩
   intro gC
   refine ⟨id,fun _=>cq,fun _=>cr,id,fun _=>z9,id,fun _ h=>ax h,?_⟩
   refine And.intro ?_ ?_
   ·intro jS
    have hq:=qt jS
    skip
    refine ⟨fun _=>⟨Int.le_refl 0,by simp⟩,cD ⟨aj k,aj (k.tdiv 6+1+k.tmod 6),((k.tdiv 252).tmod 4).tdiv 2 * 2,1+(k.tdiv 36).tmod 7⟩,fun _=>rfl,?_⟩
    refine ⟨fun _=>cH,fun _=>cI,fun _=>z2,fun _=>xL,fun _=>⟨by show _≤aj k - (aQ.tdiv 540).tmod 2 * 1073741825; omega,by show aj k - (aQ.tdiv 540).tmod 2 * 1073741825≤_; omega⟩,?_⟩
    refine ⟨fun _=>⟨Int.le_refl 0,by simp⟩,[I (aj k - (aQ.tdiv 540).tmod 2 * 1073741825)],⟨rf,tv⟩,cD ⟨aj k,aj (k.tdiv 6+1+k.tmod 6),((k.tdiv 252).tmod 4).tdiv 2 * 2,1+(k.tdiv 36).tmod 7⟩,rfl,?_⟩
    refine ⟨by kernel_rfl,?_⟩
    rw [mr hq]
    exact ⟨rf,tv⟩
   intro jS
   rw [mu (qf iG) (qf iN) (qf gC) (qf jS)]
   exact ⟨rf,tv⟩
end Go.Proofs.YtpbdohkbiklflaaGreatDoor
