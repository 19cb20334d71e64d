import Derived.Test.YtpbdohkbiklflaaGreatDoorSM27
import Derived.Test.YtpbdohkbiklflaaGreatDoorSM28
import Derived.Test.YtpbdohkbiklflaaGreatDoorSM21
import Derived.Test.YtpbdohkbiklflaaGreatDoorSM23
set_option linter.unusedVariables false
set_option linter.unusedSimpArgs false
set_option linter.unusedSectionVars false
namespace Go.Proofs.YtpbdohkbiklflaaGreatDoor
open Go.TM
variable [cQ]
set_option maxRecDepth 100000
theorem QF (h g:Bool) (X:Vs):Lo 3 0 1 (vS false h g X) (vS true h g X):=⟨_,rfl,rfl,fun j hj=>match j,hj with
 | 0,_=>.cells (.same _ (.same _ (.same _ (.same _ (.same _ (.same _ (.same _ (.same _ (.QE (mP.refl _ _ _ _))))))))))
 | 1,_=>.refl _
 | 2,_=>.refl _
 | 3,hj=>absurd rfl hj
 | 4,_=>.refl _
 | 5,_=>.refl _
 | _+6,_=>(Bl.refl ak.none:Bl 3 0 1 ak.none ak.none)⟩
theorem QG (f g:Bool) (X:Vs):Lo 4 0 1 (vS f false g X) (vS f true g X):=⟨_,rfl,rfl,fun j hj=>match j,hj with
 | 0,_=>.cells (.same _ (.same _ (.same _ (.same _ (.same _ (.same _ (.same _ (.same _ (.same _ (.QE (mP.refl _ _ _ _)))))))))))
 | 1,_=>.refl _
 | 2,_=>.refl _
 | 3,_=>.refl _
 | 4,hj=>absurd rfl hj
 | 5,_=>.refl _
 | _+6,_=>(Bl.refl ak.none:Bl 4 0 1 ak.none ak.none)⟩
theorem vk {s:Vs} {S:SS} {L N:Nat} (h:EZ s S L N) (hL:L+8≤500) (hN:N≤99) (st:St) (hm:st.mv.length≤4) :
  match eP s S st with
  | .err e=>bg Tryz.prog 21 [.ptr 0 0,F2 st] 6 (vK false s) 9 [.dv (I e)] (vK false s)
  | .ok A=>bg Tryz.prog 21 [.ptr 0 0,F2 st] 6 (vK false s) 9 [.dv (I 0)] (vS true true true (cn s S st (aF s A))):=by
 have hw:=rh h hL hN st hm
 cases hq:eP s S st with
 | err e=>rw [hq] at hw; exact hw
 | ok A =>
  rw [hq] at hw
  simp only at hw ⊢
  have h1:bg Tryz.prog 21 [.ptr 0 0,F2 st] 6 (vK false s) 9 [.dv (I 0)] (vS true (Dq s S st) true (cn s S st (aF s A))):=by
   cases hf:fm s A with
   | true=>rw [hf] at hw; exact hw
   | false=>rw [hf] at hw; exact vj hw (by omega) (.inl ⟨rfl,rfl⟩) (QF _ _ _)
  cases hf:Dq s S st with
  | true=>rw [hf] at h1; exact h1
  | false=>rw [hf] at h1; exact vj h1 (by omega) (.inl ⟨rfl,rfl⟩) (QG _ _ _)
end Go.Proofs.YtpbdohkbiklflaaGreatDoor
namespace Go.Proofs.YtpbdohkbiklflaaGreatDoor
open Go.TM
def jX (n m:Int):Int:=(if n<0 then -(n+1) else n).tmod m
theorem ny (n m:Int) (hm:1≤m):0≤jX n m∧jX n m<m:=by
 unfold jX
 refine ⟨Int.tmod_nonneg _ (by split <;> omega),Int.tmod_lt_of_pos _ (by omega)⟩
def bm (l:List Int) (i m:Int):Int:=if i<0 ∨ (l.length:Int)≤i then 0 else jX (l.getD i.toNat 0) m
variable [cQ]
theorem jH (n m:Int) (hn:yY n) (hm:1≤m) (Ur:m≤1000000000000):eh Tryz.prog 10 [I n,I m] [I (jX n m)]:=by
 refine cM aW mixed (aw _) (ay _) Tryz.func10 rfl (by kernel_rfl) rfl ?_
 unfold yY at hn
 refine ⟨fun h=>?_,fun h=>?_⟩
 ·have h':n<0:=of_decide_eq_true h
  refine ⟨fun _=>⟨by omega,by omega⟩,fun _=>⟨by omega,by omega⟩,fun _=>by omega,?_⟩
  exact ⟨bq (by rw [jX,if_pos h',Int.zero_sub]),tv⟩
 ·have h':¬ n<0:=of_decide_eq_false h
  refine ⟨fun _=>by omega,?_⟩
  exact ⟨bq (by rw [jX,if_neg h']),tv⟩
theorem ct (l:List Int) (i m:Int) (hl:∀x∈l,yY x) (hm:1≤m) (Ur:m≤1000000000000):eh Tryz.prog 42 [pX l,I i,I m] [I (bm l i m)]:=by
 refine cM aW mixed (aw _) (ay _) Tryz.func42 rfl (by kernel_rfl) rfl ?_
 repeat first | refine ⟨id,?_⟩ | refine ⟨fun _ h=>dB h,?_⟩ | refine ⟨fun _ h=>aA h,?_⟩ | refine ⟨fun h=>⟨h,fun h2=>bW h h2⟩,?_⟩ | refine ⟨fun h=>⟨h,fun h2=>br h h2⟩,?_⟩
 refine ⟨fun h=>?_,fun h=>?_⟩
 ·have h':i<0 ∨ (l.length:Int)≤i:=by
   rw [List.length_map] at h
   simpa using h
  exact ⟨bq (by rw [bm,if_pos h']),tv⟩
 ·have h':¬ (i<0 ∨ (l.length:Int)≤i):=by
   rw [List.length_map] at h
   simp at h; omega
  have hg:l[i.toNat]?=some (l.getD i.toNat 0):=by rw [List.getD_eq_getElem?_getD,List.getElem?_eq_getElem (show i.toNat<l.length by omega)]; rfl
  refine ⟨I (l.getD i.toNat 0),fun _=>⟨by omega,by rw [List.getElem?_map,hg]; rfl⟩,?_⟩
  refine .inl ⟨_,fun _=>(jH _ m (hl _ (List.mem_of_getElem? hg)) hm Ur).ok,?_⟩
  exact ⟨bq (by rw [bm,if_neg h']),tv⟩
end Go.Proofs.YtpbdohkbiklflaaGreatDoor
namespace Go.Proofs.YtpbdohkbiklflaaGreatDoor
open Go.TM
variable [cQ]
set_option maxRecDepth 100000
theorem cO (l:List Int) (i m:Int) (hm:1≤m):0≤bm l i m∧bm l i m<m:=by
 unfold bm; split
 ·omega
 ·exact ny _ m hm
def Dv:List Int:=[1,2,3,4,1048577,9]
theorem Bo (k:Int) (hk:0≤k):Dv[(k.tmod 6).toNat]?=some (ah k):=by
 have h1:=Int.tmod_nonneg 6 hk
 have h2:=Int.tmod_lt_of_pos k (show (0:Int)<6 by omega)
 unfold ah
 rw [List.getD_eq_getElem?_getD]
 show Dv[(k.tmod 6).toNat]?=some (Dv[(k.tmod 6).toNat]?.getD 0)
 have h3:(k.tmod 6).toNat<Dv.length:=by show _<6; omega
 rw [List.getElem?_eq_getElem h3]; rfl
theorem E2 (k:Int) (hk:0≤k):1≤ah k∧ah k≤1048577:=by
 have:=List.mem_of_getElem? (Bo k hk)
 simp only [Dv,List.mem_cons,List.not_mem_nil,or_false] at this
 omega
theorem bn (k:Int) (hk:0≤k):eh Tryz.prog 43 [I k] [I (ah k)]:=by
 refine cM aW mixed (aw _) (ay _) Tryz.func43 rfl (by kernel_rfl) rfl ?_
 refine .inl ⟨Dv.map I,rfl,⟨rf,rf,rf,rf,rf,rf,tv⟩,(by simp [Dv]; exact ⟨rfl,rfl,rfl,rfl,rfl,rfl⟩),?_⟩
 have h1:=Int.tmod_nonneg 6 hk
 refine ⟨fun _ h=>by omega,?_⟩
 refine ⟨I (ah k),fun _=>⟨h1,by rw [List.getElem?_map,Bo k hk]; rfl⟩,?_⟩
 exact ⟨rf,tv⟩
def Dw (f:Mv→Mv):List Mv→List Mv
 | []=>[]
 | m::r=>f m::r
def dE (k aL:Int):Int × List Mv :=
 let a:=ah k
 let b:=ah (k.tdiv 6+1+k.tmod 6)
 let n:=1+(k.tdiv 36).tmod 7
 let item:=(k.tdiv 252).tmod 4
 if aL.tmod 6=0 ∨ aL.tmod 6=1 then (0,[⟨0,a,item,3 * n⟩,⟨0,b,1,5 * n⟩]) else
 if aL.tmod 6=2 ∨ aL.tmod 6=3 then
  let b1:=if a=b then a+1 else b
  let x:Mv:=⟨a,b1,item.tdiv 2 * 2,n⟩
  let y:Mv:=⟨b1,a,1,1+(aL.tdiv 6).tmod 9⟩
  (2,if (aL.tdiv 54).tmod 2=1 then [y,x] else [x,y]) else
 if aL.tmod 6=4 then ((aL.tdiv 6).tmod 11,[⟨a,0,item,n⟩]) else
 (2,[⟨0,a,item,n⟩,⟨a,3 * a,item,n⟩,⟨3 * a,a,item,1⟩])
def vl (bad:Bool) (aL tick:Int) (s:St):St :=
 if bad=true∧(aL.tdiv 60).tmod 9=0 then { s with mv:=Dw (fun m=>{ m with n:=(aL.tdiv 540).tmod 3 - 1 }) s.mv } else
 if bad=true∧(aL.tdiv 60).tmod 9=1 then { s with mv:=Dw (fun m=>{ m with it:=4 - (aL.tdiv 540).tmod 2 * 5 }) s.mv } else
 if bad=true∧(aL.tdiv 60).tmod 9=2 then { s with tick:=tick - 1 - (aL.tdiv 540).tmod 3 } else
 if bad=true∧(aL.tdiv 60).tmod 9=3 then { s with mv:=Dw (fun m=>{ m with t:=m.f - (aL.tdiv 540).tmod 2 * 1073741825 }) s.mv } else s
def jI (k aL tick:Int) (bad:Bool):St:=vl bad aL tick ⟨0,(dE k aL).1,ah k,tick+(k.tdiv 1008).tmod 4,-1,0,(dE k aL).2⟩
def fF (l:List Int) (at' tick:Int) (bad:Bool):St:=jI (bm l at' 1000000) (bm l (at'+1) 1000000) tick bad
theorem qt {bad:Bool} {q z:Int} (h:(bif bad then q == z else false)=true):bad=true∧q=z:=by
 obtain ⟨h1,h2⟩:=Qg h; exact ⟨h1,by simpa using h2⟩
theorem qf {bad:Bool} {q z:Int} (h:(bif bad then q == z else false)=false):¬ (bad=true∧q=z):=fun h9=>Qh h ⟨h9.1,by simpa using h9.2⟩
theorem lJ {bad:Bool} {aL tick:Int} {s:St} (h:bad=true∧(aL.tdiv 60).tmod 9=0):vl bad aL tick s={ s with mv:=Dw (fun m=>{ m with n:=(aL.tdiv 540).tmod 3 - 1 }) s.mv }:=if_pos h
theorem lK {bad:Bool} {aL tick:Int} {s:St} (h:bad=true∧(aL.tdiv 60).tmod 9=1):vl bad aL tick s={ s with mv:=Dw (fun m=>{ m with it:=4 - (aL.tdiv 540).tmod 2 * 5 }) s.mv }:=by
 unfold vl; rw [if_neg (fun h9=>absurd (h9.2.symm.trans h.2) (by decide)),if_pos h]
theorem lL {bad:Bool} {aL tick:Int} {s:St} (h:bad=true∧(aL.tdiv 60).tmod 9=2):vl bad aL tick s={ s with tick:=tick - 1 - (aL.tdiv 540).tmod 3 }:=by
 unfold vl; rw [if_neg (fun h9=>absurd (h9.2.symm.trans h.2) (by decide)),if_neg (fun h9=>absurd (h9.2.symm.trans h.2) (by decide)),if_pos h]
theorem lM {bad:Bool} {aL tick:Int} {s:St} (h:bad=true∧(aL.tdiv 60).tmod 9=3):vl bad aL tick s={ s with mv:=Dw (fun m=>{ m with t:=m.f - (aL.tdiv 540).tmod 2 * 1073741825 }) s.mv }:=by
 unfold vl; rw [if_neg (fun h9=>absurd (h9.2.symm.trans h.2) (by decide)),if_neg (fun h9=>absurd (h9.2.symm.trans h.2) (by decide)),if_neg (fun h9=>absurd (h9.2.symm.trans h.2) (by decide)),if_pos h]
theorem lN {bad:Bool} {aL tick:Int} {s:St} (h0:¬ (bad=true∧(aL.tdiv 60).tmod 9=0)) (h1:¬ (bad=true∧(aL.tdiv 60).tmod 9=1)) (h2:¬ (bad=true∧(aL.tdiv 60).tmod 9=2)) (h3:¬ (bad=true∧(aL.tdiv 60).tmod 9=3)):vl bad aL tick s=s:=by
 unfold vl; rw [if_neg h0,if_neg h1,if_neg h2,if_neg h3]
theorem rj {x z:Int} (h:(x == z)=true):x=z:=by simpa using h
theorem oZ {x z:Int} (h:(x == z)=false):¬ x=z:=by simpa using h
theorem sm {k aL tick:Int} (k0:0≤k) (k1:k<1000000) (w0:0≤aL) (w1:aL<1000000) (ht:0≤tick∧tick≤1099511627776):0≤k.tdiv 6∧0≤k.tdiv 36∧0≤k.tdiv 252∧0≤k.tdiv 1008∧k.tdiv 6≤k∧k.tdiv 36≤k∧k.tdiv 252≤k∧k.tdiv 1008≤k∧0≤k.tmod 6∧k.tmod 6<6∧0≤(k.tdiv 36).tmod 7∧(k.tdiv 36).tmod 7<7∧0≤(k.tdiv 252).tmod 4∧(k.tdiv 252).tmod 4<4∧0≤(k.tdiv 1008).tmod 4∧(k.tdiv 1008).tmod 4<4∧0≤aL.tdiv 6∧0≤aL.tdiv 54∧0≤aL.tdiv 60∧0≤aL.tdiv 540∧aL.tdiv 6≤aL∧aL.tdiv 54≤aL∧aL.tdiv 60≤aL∧aL.tdiv 540≤aL∧0≤(aL.tdiv 6).tmod 9∧(aL.tdiv 6).tmod 9<9∧0≤(aL.tdiv 6).tmod 11∧(aL.tdiv 6).tmod 11<11∧0≤(aL.tdiv 540).tmod 3∧(aL.tdiv 540).tmod 3<3∧0≤(aL.tdiv 540).tmod 2∧(aL.tdiv 540).tmod 2<2∧0≤((k.tdiv 252).tmod 4).tdiv 2∧((k.tdiv 252).tmod 4).tdiv 2≤(k.tdiv 252).tmod 4∧(1≤ah k∧ah k≤1048577)∧(1≤ah (k.tdiv 6+1+k.tmod 6)∧ah (k.tdiv 6+1+k.tmod 6)≤1048577)∧((60:Int)=0→False)∧((540:Int)=0→False)∧((54:Int)=0→False)∧((9:Int)=0→False)∧((6:Int)=0→False)∧((11:Int)=0→False)∧((3:Int)=0→False)∧((2:Int)=0→False)∧(-9223372036854775808≤aL.tdiv 60∧aL.tdiv 60≤9223372036854775807)∧(-9223372036854775808≤aL.tdiv 540∧aL.tdiv 540≤9223372036854775807)∧(-9223372036854775808≤aL.tdiv 54∧aL.tdiv 54≤9223372036854775807)∧(-9223372036854775808≤aL.tdiv 6∧aL.tdiv 6≤9223372036854775807)∧(-9223372036854775808≤(aL.tdiv 540).tmod 3 - 1∧(aL.tdiv 540).tmod 3 - 1≤9223372036854775807)∧(-9223372036854775808≤(aL.tdiv 540).tmod 2 * 5∧(aL.tdiv 540).tmod 2 * 5≤9223372036854775807)∧(-9223372036854775808≤4 - (aL.tdiv 540).tmod 2 * 5∧4 - (aL.tdiv 540).tmod 2 * 5≤9223372036854775807)∧(-9223372036854775808≤tick - 1∧tick - 1≤9223372036854775807)∧(-9223372036854775808≤tick - 1 - (aL.tdiv 540).tmod 3∧tick - 1 - (aL.tdiv 540).tmod 3≤9223372036854775807)∧(-9223372036854775808≤(aL.tdiv 540).tmod 2 * 1073741825∧(aL.tdiv 540).tmod 2 * 1073741825≤9223372036854775807)∧(-9223372036854775808≤3 * (1+(k.tdiv 36).tmod 7)∧3 * (1+(k.tdiv 36).tmod 7)≤9223372036854775807)∧(-9223372036854775808≤5 * (1+(k.tdiv 36).tmod 7)∧5 * (1+(k.tdiv 36).tmod 7)≤9223372036854775807)∧(-9223372036854775808≤ah k+1∧ah k+1≤9223372036854775807)∧(-9223372036854775808≤((k.tdiv 252).tmod 4).tdiv 2∧((k.tdiv 252).tmod 4).tdiv 2≤9223372036854775807)∧(-9223372036854775808≤((k.tdiv 252).tmod 4).tdiv 2 * 2∧((k.tdiv 252).tmod 4).tdiv 2 * 2≤9223372036854775807)∧(-9223372036854775808≤1+(aL.tdiv 6).tmod 9∧1+(aL.tdiv 6).tmod 9≤9223372036854775807)∧(-9223372036854775808≤3 * ah k∧3 * ah k≤9223372036854775807):=by
 have d6:=Int.tdiv_nonneg k0 (show (0:Int)≤6 by omega)
 have d36:=Int.tdiv_nonneg k0 (show (0:Int)≤36 by omega)
 have lV:=Int.tdiv_nonneg k0 (show (0:Int)≤252 by omega)
 have gw:=Int.tdiv_nonneg k0 (show (0:Int)≤1008 by omega)
 have e6:=Int.tdiv_le_self (a:=k) 6 k0
 have Bp:=Int.tdiv_le_self (a:=k) 36 k0
 have mQ:=Int.tdiv_le_self (a:=k) 252 k0
 have gZ:=Int.tdiv_le_self (a:=k) 1008 k0
 have m6:=Int.tmod_nonneg 6 k0
 have Lq:=Int.tmod_lt_of_pos k (show (0:Int)<6 by omega)
 have m7:=Int.tmod_nonneg 7 d36
 have Lr:=Int.tmod_lt_of_pos (k.tdiv 36) (show (0:Int)<7 by omega)
 have m4:=Int.tmod_nonneg 4 lV
 have Ls:=Int.tmod_lt_of_pos (k.tdiv 252) (show (0:Int)<4 by omega)
 have n4:=Int.tmod_nonneg 4 gw
 have Lt:=Int.tmod_lt_of_pos (k.tdiv 1008) (show (0:Int)<4 by omega)
 have f6:=Int.tdiv_nonneg w0 (show (0:Int)≤6 by omega)
 have f54:=Int.tdiv_nonneg w0 (show (0:Int)≤54 by omega)
 have f60:=Int.tdiv_nonneg w0 (show (0:Int)≤60 by omega)
 have lx:=Int.tdiv_nonneg w0 (show (0:Int)≤540 by omega)
 have g6:=Int.tdiv_le_self (a:=aL) 6 w0
 have Bq:=Int.tdiv_le_self (a:=aL) 54 w0
 have Br:=Int.tdiv_le_self (a:=aL) 60 w0
 have mR:=Int.tdiv_le_self (a:=aL) 540 w0
 have h9:=Int.tmod_nonneg 9 f6
 have Lu:=Int.tmod_lt_of_pos (aL.tdiv 6) (show (0:Int)<9 by omega)
 have C6:=Int.tmod_nonneg 11 f6
 have zh:=Int.tmod_lt_of_pos (aL.tdiv 6) (show (0:Int)<11 by omega)
 have h3:=Int.tmod_nonneg 3 lx
 have GW:=Int.tmod_lt_of_pos (aL.tdiv 540) (show (0:Int)<3 by omega)
 have h2:=Int.tmod_nonneg 2 lx
 have B4:=Int.tmod_lt_of_pos (aL.tdiv 540) (show (0:Int)<2 by omega)
 have i2:=Int.tdiv_nonneg m4 (show (0:Int)≤2 by omega)
 have Lv:=Int.tdiv_le_self (a:=(k.tdiv 252).tmod 4) 2 m4
 have ba:=E2 k k0
 have bb:=E2 (k.tdiv 6+1+k.tmod 6) (by omega)
 have cf:(60:Int)=0→False:=by decide
 have cy:(540:Int)=0→False:=by decide
 have Lw:(54:Int)=0→False:=by decide
 have z9:(9:Int)=0→False:=by decide
 have z6:(6:Int)=0→False:=by decide
 have Lx:(11:Int)=0→False:=by decide
 have z3:(3:Int)=0→False:=by decide
 have z2:(2:Int)=0→False:=by decide
 have cg:-9223372036854775808≤aL.tdiv 60∧aL.tdiv 60≤9223372036854775807:=by omega
 have cz:-9223372036854775808≤aL.tdiv 540∧aL.tdiv 540≤9223372036854775807:=by omega
 have Ly:-9223372036854775808≤aL.tdiv 54∧aL.tdiv 54≤9223372036854775807:=by omega
 have o6:-9223372036854775808≤aL.tdiv 6∧aL.tdiv 6≤9223372036854775807:=by omega
 have s0:-9223372036854775808≤(aL.tdiv 540).tmod 3 - 1∧(aL.tdiv 540).tmod 3 - 1≤9223372036854775807:=by omega
 have wz:-9223372036854775808≤(aL.tdiv 540).tmod 2 * 5∧(aL.tdiv 540).tmod 2 * 5≤9223372036854775807:=by omega
 have wA:-9223372036854775808≤4 - (aL.tdiv 540).tmod 2 * 5∧4 - (aL.tdiv 540).tmod 2 * 5≤9223372036854775807:=by omega
 have wB:-9223372036854775808≤tick - 1∧tick - 1≤9223372036854775807:=by omega
 have wC:-9223372036854775808≤tick - 1 - (aL.tdiv 540).tmod 3∧tick - 1 - (aL.tdiv 540).tmod 3≤9223372036854775807:=by omega
 have wD:-9223372036854775808≤(aL.tdiv 540).tmod 2 * 1073741825∧(aL.tdiv 540).tmod 2 * 1073741825≤9223372036854775807:=by omega
 have b3:-9223372036854775808≤3 * (1+(k.tdiv 36).tmod 7)∧3 * (1+(k.tdiv 36).tmod 7)≤9223372036854775807:=by omega
 have b5:-9223372036854775808≤5 * (1+(k.tdiv 36).tmod 7)∧5 * (1+(k.tdiv 36).tmod 7)≤9223372036854775807:=by omega
 have LA:-9223372036854775808≤ah k+1∧ah k+1≤9223372036854775807:=by omega
 have LB:-9223372036854775808≤((k.tdiv 252).tmod 4).tdiv 2∧((k.tdiv 252).tmod 4).tdiv 2≤9223372036854775807:=by omega
 have LC:-9223372036854775808≤((k.tdiv 252).tmod 4).tdiv 2 * 2∧((k.tdiv 252).tmod 4).tdiv 2 * 2≤9223372036854775807:=by omega
 have b9:-9223372036854775808≤1+(aL.tdiv 6).tmod 9∧1+(aL.tdiv 6).tmod 9≤9223372036854775807:=by omega
 have LD:-9223372036854775808≤3 * ah k∧3 * ah k≤9223372036854775807:=by omega
 exact ⟨d6,d36,lV,gw,e6,Bp,mQ,gZ,m6,Lq,m7,Lr,m4,Ls,n4,Lt,f6,f54,f60,lx,g6,Bq,Br,mR,h9,Lu,C6,zh,h3,GW,h2,B4,i2,Lv,ba,bb,cf,cy,Lw,z9,z6,Lx,z3,z2,cg,cz,Ly,o6,s0,wz,wA,wB,wC,wD,b3,b5,LA,LB,LC,b9,LD⟩
end Go.Proofs.YtpbdohkbiklflaaGreatDoor
namespace Go.Proofs.YtpbdohkbiklflaaGreatDoor
open Go.TM
variable [cQ]
set_option maxRecDepth 100000
set_option maxHeartbeats 4000000 in
theorem LF (l:List Int) (hl:∀x∈l,yY x) (at' tick:Int) (bad:Bool) (ha:0≤at'∧at'≤1000000) (ht:0≤tick∧tick≤1099511627776) (hc:(bm l (at'+1) 1000000).tmod 6=0):eh Tryz.prog 19 [pX l,I at',I tick,B bad] [La (fF l at' tick bad)]:=by
 refine cM aW mixed (aw _) (ay _) Tryz.func19 rfl (by kernel_rfl) rfl ?_
 have AN:=ct l at' 1000000 hl (by omega) (by omega)
 have oR:=ct l (at'+1) 1000000 hl (by omega) (by omega)
 obtain ⟨k0,k1⟩:=cO l at' 1000000 (by omega)
 obtain ⟨w0,w1⟩:=cO l (at'+1) 1000000 (by omega)
 refine .inl ⟨_,fun _=>AN.ok,?_⟩
 unfold fF
 generalize bm l at' 1000000=k at *
 generalize bm l (at'+1) 1000000=aL at *
 obtain ⟨d6,d36,lV,gw,e6,Bp,mQ,gZ,m6,Lq,m7,Lr,m4,Ls,n4,Lt,f6,f54,f60,lx,g6,Bq,Br,mR,h9,Lu,C6,zh,h3,GW,h2,B4,i2,Lv,ba,bb,cf,cy,Lw,z9,z6,Lx,z3,z2,cg,cz,Ly,o6,s0,wz,wA,wB,wC,wD,b3,b5,LA,LB,LC,b9,LD⟩:=sm k0 k1 w0 w1 ht
 refine .inl ⟨_,fun _=>(bn k k0).ok,?_⟩
 repeat first | refine ⟨fun _=>⟨by omega,by omega⟩,?_⟩ | refine ⟨fun _ h=>by omega,?_⟩
 refine .inl ⟨_,fun _=>(bn (k.tdiv 6+1+k.tmod 6) (by omega)).ok,?_⟩
 repeat first | refine ⟨fun _=>⟨by omega,by omega⟩,?_⟩ | refine ⟨fun _ h=>by omega,?_⟩
 refine .inl ⟨_,fun _=>oR.ok,?_⟩
 repeat first | refine ⟨fun _=>⟨by omega,by omega⟩,?_⟩ | refine ⟨fun _ h=>by omega,?_⟩
 clear e6 Bp mQ gZ g6 Bq Br mR d6 d36 lV gw f6 f54 f60 lx
 refine And.intro ?_ (fun h=>absurd hc (oZ h))
 intro c0
 have c0:=rj c0
 refine And.intro ?_ (fun h=>absurd c0 (oZ h))
 intro _
 have hB:dE k aL=(0,[⟨0,ah k,(k.tdiv 252).tmod 4,3 * (1+(k.tdiv 36).tmod 7)⟩,⟨0,ah (k.tdiv 6+1+k.tmod 6),1,5 * (1+(k.tdiv 36).tmod 7)⟩]):=by unfold dE; simp only; rw [if_pos (by omega)]
 repeat refine ⟨fun _=>by assumption,?_⟩
 refine Or.inr ?_
 refine Or.inl ?_
 refine ⟨[de ⟨0,ah k,(k.tdiv 252).tmod 4,3 * (1+(k.tdiv 36).tmod 7)⟩,de ⟨0,ah (k.tdiv 6+1+k.tmod 6),1,5 * (1+(k.tdiv 36).tmod 7)⟩],rfl,⟨rf,rf,rf,rf,rf,rf,rf,rf,rf,rf,tv⟩,(by simp; exact ⟨rfl,rfl⟩),?_⟩
 unfold jI; rw [hB]
 refine ⟨id,fun _=>cf,fun _=>cg,id,fun _=>z9,id,fun _ h=>aA h,?_⟩
 refine And.intro ?_ ?_
 ·intro ie
  have hq:=qt ie
  refine ⟨fun _=>cy,fun _=>cz,fun _=>z3,fun _=>s0,?_⟩
  refine ⟨fun _=>⟨Int.le_refl 0,by simp⟩,[I ((aL.tdiv 540).tmod 3 - 1)],⟨rf,tv⟩,de ⟨0,ah k,(k.tdiv 252).tmod 4,3 * (1+(k.tdiv 36).tmod 7)⟩,rfl,?_⟩
  refine ⟨id,fun _=>cf,fun _=>cg,id,fun _=>z9,id,fun _ h=>aA h,?_⟩
  refine And.intro ?_ ?_
  ·intro h; exact absurd ((qt h).2.symm.trans hq.2) (by decide)
  intro _
  refine ⟨id,fun _=>cf,fun _=>cg,id,fun _=>z9,id,fun _ h=>aA h,?_⟩
  refine And.intro ?_ ?_
  ·intro h; exact absurd ((qt h).2.symm.trans hq.2) (by decide)
  intro _
  refine ⟨id,fun _=>cf,fun _=>cg,id,fun _=>z9,id,fun _ h=>aA h,?_⟩
  refine And.intro ?_ ?_
  ·intro h; exact absurd ((qt h).2.symm.trans hq.2) (by decide)
  intro _
  rw [lJ hq]
  exact ⟨rf,tv⟩
 intro ie
 refine ⟨id,fun _=>cf,fun _=>cg,id,fun _=>z9,id,fun _ h=>aA h,?_⟩
 refine And.intro ?_ ?_
 ·intro ik
  have hq:=qt ik
  refine ⟨fun _=>cy,fun _=>cz,fun _=>z2,fun _=>wz,fun _=>wA,?_⟩
  refine ⟨fun _=>⟨Int.le_refl 0,by simp⟩,[I (4 - (aL.tdiv 540).tmod 2 * 5)],⟨rf,tv⟩,de ⟨0,ah k,(k.tdiv 252).tmod 4,3 * (1+(k.tdiv 36).tmod 7)⟩,rfl,?_⟩
  refine ⟨id,fun _=>cf,fun _=>cg,id,fun _=>z9,id,fun _ h=>aA h,?_⟩
  refine And.intro ?_ ?_
  ·intro h; exact absurd ((qt h).2.symm.trans hq.2) (by decide)
  intro _
  refine ⟨id,fun _=>cf,fun _=>cg,id,fun _=>z9,id,fun _ h=>aA h,?_⟩
  refine And.intro ?_ ?_
  ·intro h; exact absurd ((qt h).2.symm.trans hq.2) (by decide)
  intro _
  rw [lK hq]
  exact ⟨rf,tv⟩
 intro ik
 refine ⟨id,fun _=>cf,fun _=>cg,id,fun _=>z9,id,fun _ h=>aA h,?_⟩
 refine And.intro ?_ ?_
 ·intro fL
  have hq:=qt fL
  refine ⟨fun _=>wB,fun _=>cy,fun _=>cz,fun _=>z3,fun _=>wC,?_⟩
  refine ⟨id,fun _=>cf,fun _=>cg,id,fun _=>z9,id,fun _ h=>aA h,?_⟩
  refine And.intro ?_ ?_
  ·intro h; exact absurd ((qt h).2.symm.trans hq.2) (by decide)
  intro _
  rw [lL hq]
  exact ⟨rf,tv⟩
 intro fL
 refine ⟨id,fun _=>cf,fun _=>cg,id,fun _=>z9,id,fun _ h=>aA h,?_⟩
 refine And.intro ?_ ?_
 ·intro jo
  have hq:=qt jo
  skip
  refine ⟨fun _=>⟨Int.le_refl 0,by simp⟩,de ⟨0,ah k,(k.tdiv 252).tmod 4,3 * (1+(k.tdiv 36).tmod 7)⟩,fun _=>rfl,?_⟩
  refine ⟨fun _=>cy,fun _=>cz,fun _=>z2,fun _=>wD,fun _=>⟨by show _≤0 - (aL.tdiv 540).tmod 2 * 1073741825; omega,by show 0 - (aL.tdiv 540).tmod 2 * 1073741825≤_; omega⟩,?_⟩
  refine ⟨fun _=>⟨Int.le_refl 0,by simp⟩,[I (0 - (aL.tdiv 540).tmod 2 * 1073741825)],⟨rf,tv⟩,de ⟨0,ah k,(k.tdiv 252).tmod 4,3 * (1+(k.tdiv 36).tmod 7)⟩,rfl,?_⟩
  refine ⟨by kernel_rfl,?_⟩
  rw [lM hq]
  exact ⟨rf,tv⟩
 intro jo
 rw [lN (qf ie) (qf ik) (qf fL) (qf jo)]
 exact ⟨rf,tv⟩
set_option maxHeartbeats 4000000 in
theorem LG (l:List Int) (hl:∀x∈l,yY x) (at' tick:Int) (bad:Bool) (ha:0≤at'∧at'≤1000000) (ht:0≤tick∧tick≤1099511627776) (hc:(bm l (at'+1) 1000000).tmod 6=1):eh Tryz.prog 19 [pX l,I at',I tick,B bad] [La (fF l at' tick bad)]:=by
 refine cM aW mixed (aw _) (ay _) Tryz.func19 rfl (by kernel_rfl) rfl ?_
 have AN:=ct l at' 1000000 hl (by omega) (by omega)
 have oR:=ct l (at'+1) 1000000 hl (by omega) (by omega)
 obtain ⟨k0,k1⟩:=cO l at' 1000000 (by omega)
 obtain ⟨w0,w1⟩:=cO l (at'+1) 1000000 (by omega)
 refine .inl ⟨_,fun _=>AN.ok,?_⟩
 unfold fF
 generalize bm l at' 1000000=k at *
 generalize bm l (at'+1) 1000000=aL at *
 obtain ⟨d6,d36,lV,gw,e6,Bp,mQ,gZ,m6,Lq,m7,Lr,m4,Ls,n4,Lt,f6,f54,f60,lx,g6,Bq,Br,mR,h9,Lu,C6,zh,h3,GW,h2,B4,i2,Lv,ba,bb,cf,cy,Lw,z9,z6,Lx,z3,z2,cg,cz,Ly,o6,s0,wz,wA,wB,wC,wD,b3,b5,LA,LB,LC,b9,LD⟩:=sm k0 k1 w0 w1 ht
 refine .inl ⟨_,fun _=>(bn k k0).ok,?_⟩
 repeat first | refine ⟨fun _=>⟨by omega,by omega⟩,?_⟩ | refine ⟨fun _ h=>by omega,?_⟩
 refine .inl ⟨_,fun _=>(bn (k.tdiv 6+1+k.tmod 6) (by omega)).ok,?_⟩
 repeat first | refine ⟨fun _=>⟨by omega,by omega⟩,?_⟩ | refine ⟨fun _ h=>by omega,?_⟩
 refine .inl ⟨_,fun _=>oR.ok,?_⟩
 repeat first | refine ⟨fun _=>⟨by omega,by omega⟩,?_⟩ | refine ⟨fun _ h=>by omega,?_⟩
 clear e6 Bp mQ gZ g6 Bq Br mR d6 d36 lV gw f6 f54 f60 lx
 refine And.intro (fun h=>absurd ((rj h).symm.trans hc) (by decide)) ?_
 intro c0
 have c0:=oZ c0
 refine And.intro ?_ (fun h=>absurd hc (oZ h))
 intro c1
 have c1:=rj c1
 have hB:dE k aL=(0,[⟨0,ah k,(k.tdiv 252).tmod 4,3 * (1+(k.tdiv 36).tmod 7)⟩,⟨0,ah (k.tdiv 6+1+k.tmod 6),1,5 * (1+(k.tdiv 36).tmod 7)⟩]):=by unfold dE; simp only; rw [if_pos (by omega)]
 repeat refine ⟨fun _=>by assumption,?_⟩
 refine Or.inr ?_
 refine Or.inl ?_
 refine ⟨[de ⟨0,ah k,(k.tdiv 252).tmod 4,3 * (1+(k.tdiv 36).tmod 7)⟩,de ⟨0,ah (k.tdiv 6+1+k.tmod 6),1,5 * (1+(k.tdiv 36).tmod 7)⟩],rfl,⟨rf,rf,rf,rf,rf,rf,rf,rf,rf,rf,tv⟩,(by simp; exact ⟨rfl,rfl⟩),?_⟩
 unfold jI; rw [hB]
 refine ⟨id,fun _=>cf,fun _=>cg,id,fun _=>z9,id,fun _ h=>aA h,?_⟩
 refine And.intro ?_ ?_
 ·intro ie
  have hq:=qt ie
  refine ⟨fun _=>cy,fun _=>cz,fun _=>z3,fun _=>s0,?_⟩
  refine ⟨fun _=>⟨Int.le_refl 0,by simp⟩,[I ((aL.tdiv 540).tmod 3 - 1)],⟨rf,tv⟩,de ⟨0,ah k,(k.tdiv 252).tmod 4,3 * (1+(k.tdiv 36).tmod 7)⟩,rfl,?_⟩
  refine ⟨id,fun _=>cf,fun _=>cg,id,fun _=>z9,id,fun _ h=>aA h,?_⟩
  refine And.intro ?_ ?_
  ·intro h; exact absurd ((qt h).2.symm.trans hq.2) (by decide)
  intro _
  refine ⟨id,fun _=>cf,fun _=>cg,id,fun _=>z9,id,fun _ h=>aA h,?_⟩
  refine And.intro ?_ ?_
  ·intro h; exact absurd ((qt h).2.symm.trans hq.2) (by decide)
  intro _
  refine ⟨id,fun _=>cf,fun _=>cg,id,fun _=>z9,id,fun _ h=>aA h,?_⟩
  refine And.intro ?_ ?_
  ·intro h; exact absurd ((qt h).2.symm.trans hq.2) (by decide)
  intro _
  rw [lJ hq]
  exact ⟨rf,tv⟩
 intro ie
 refine ⟨id,fun _=>cf,fun _=>cg,id,fun _=>z9,id,fun _ h=>aA h,?_⟩
 refine And.intro ?_ ?_
 ·intro ik
  have hq:=qt ik
  refine ⟨fun _=>cy,fun _=>cz,fun _=>z2,fun _=>wz,fun _=>wA,?_⟩
  refine ⟨fun _=>⟨Int.le_refl 0,by simp⟩,[I (4 - (aL.tdiv 540).tmod 2 * 5)],⟨rf,tv⟩,de ⟨0,ah k,(k.tdiv 252).tmod 4,3 * (1+(k.tdiv 36).tmod 7)⟩,rfl,?_⟩
  refine ⟨id,fun _=>cf,fun _=>cg,id,fun _=>z9,id,fun _ h=>aA h,?_⟩
  refine And.intro ?_ ?_
  ·intro h; exact absurd ((qt h).2.symm.trans hq.2) (by decide)
  intro _
  refine ⟨id,fun _=>cf,fun _=>cg,id,fun _=>z9,id,fun _ h=>aA h,?_⟩
  refine And.intro ?_ ?_
  ·intro h; exact absurd ((qt h).2.symm.trans hq.2) (by decide)
  intro _
  rw [lK hq]
  exact ⟨rf,tv⟩
 intro ik
 refine ⟨id,fun _=>cf,fun _=>cg,id,fun _=>z9,id,fun _ h=>aA h,?_⟩
 refine And.intro ?_ ?_
 ·intro fL
  have hq:=qt fL
  refine ⟨fun _=>wB,fun _=>cy,fun _=>cz,fun _=>z3,fun _=>wC,?_⟩
  refine ⟨id,fun _=>cf,fun _=>cg,id,fun _=>z9,id,fun _ h=>aA h,?_⟩
  refine And.intro ?_ ?_
  ·intro h; exact absurd ((qt h).2.symm.trans hq.2) (by decide)
  intro _
  rw [lL hq]
  exact ⟨rf,tv⟩
 intro fL
 refine ⟨id,fun _=>cf,fun _=>cg,id,fun _=>z9,id,fun _ h=>aA h,?_⟩
 refine And.intro ?_ ?_
 ·intro jo
  have hq:=qt jo
  skip
  refine ⟨fun _=>⟨Int.le_refl 0,by simp⟩,de ⟨0,ah k,(k.tdiv 252).tmod 4,3 * (1+(k.tdiv 36).tmod 7)⟩,fun _=>rfl,?_⟩
  refine ⟨fun _=>cy,fun _=>cz,fun _=>z2,fun _=>wD,fun _=>⟨by show _≤0 - (aL.tdiv 540).tmod 2 * 1073741825; omega,by show 0 - (aL.tdiv 540).tmod 2 * 1073741825≤_; omega⟩,?_⟩
  refine ⟨fun _=>⟨Int.le_refl 0,by simp⟩,[I (0 - (aL.tdiv 540).tmod 2 * 1073741825)],⟨rf,tv⟩,de ⟨0,ah k,(k.tdiv 252).tmod 4,3 * (1+(k.tdiv 36).tmod 7)⟩,rfl,?_⟩
  refine ⟨by kernel_rfl,?_⟩
  rw [lM hq]
  exact ⟨rf,tv⟩
 intro jo
 rw [lN (qf ie) (qf ik) (qf fL) (qf jo)]
 exact ⟨rf,tv⟩
end Go.Proofs.YtpbdohkbiklflaaGreatDoor
namespace Go.Proofs.YtpbdohkbiklflaaGreatDoor
open Go.TM
variable [cQ]
set_option maxRecDepth 100000
set_option maxHeartbeats 4000000 in
theorem LH (l:List Int) (hl:∀x∈l,yY x) (at' tick:Int) (bad:Bool) (ha:0≤at'∧at'≤1000000) (ht:0≤tick∧tick≤1099511627776) (hc:(bm l (at'+1) 1000000).tmod 6=4):eh Tryz.prog 19 [pX l,I at',I tick,B bad] [La (fF l at' tick bad)]:=by
 refine cM aW mixed (aw _) (ay _) Tryz.func19 rfl (by kernel_rfl) rfl ?_
 have AN:=ct l at' 1000000 hl (by omega) (by omega)
 have oR:=ct l (at'+1) 1000000 hl (by omega) (by omega)
 obtain ⟨k0,k1⟩:=cO l at' 1000000 (by omega)
 obtain ⟨w0,w1⟩:=cO l (at'+1) 1000000 (by omega)
 refine .inl ⟨_,fun _=>AN.ok,?_⟩
 unfold fF
 generalize bm l at' 1000000=k at *
 generalize bm l (at'+1) 1000000=aL at *
 obtain ⟨d6,d36,lV,gw,e6,Bp,mQ,gZ,m6,Lq,m7,Lr,m4,Ls,n4,Lt,f6,f54,f60,lx,g6,Bq,Br,mR,h9,Lu,C6,zh,h3,GW,h2,B4,i2,Lv,ba,bb,cf,cy,Lw,z9,z6,Lx,z3,z2,cg,cz,Ly,o6,s0,wz,wA,wB,wC,wD,b3,b5,LA,LB,LC,b9,LD⟩:=sm k0 k1 w0 w1 ht
 refine .inl ⟨_,fun _=>(bn k k0).ok,?_⟩
 repeat first | refine ⟨fun _=>⟨by omega,by omega⟩,?_⟩ | refine ⟨fun _ h=>by omega,?_⟩
 refine .inl ⟨_,fun _=>(bn (k.tdiv 6+1+k.tmod 6) (by omega)).ok,?_⟩
 repeat first | refine ⟨fun _=>⟨by omega,by omega⟩,?_⟩ | refine ⟨fun _ h=>by omega,?_⟩
 refine .inl ⟨_,fun _=>oR.ok,?_⟩
 repeat first | refine ⟨fun _=>⟨by omega,by omega⟩,?_⟩ | refine ⟨fun _ h=>by omega,?_⟩
 clear e6 Bp mQ gZ g6 Bq Br mR d6 d36 lV gw f6 f54 f60 lx
 refine And.intro (fun h=>absurd ((rj h).symm.trans hc) (by decide)) ?_
 intro c0
 have c0:=oZ c0
 refine And.intro (fun h=>absurd ((rj h).symm.trans hc) (by decide)) ?_
 intro c1
 have c1:=oZ c1
 refine And.intro (fun h=>absurd ((rj h).symm.trans hc) (by decide)) ?_
 intro c2
 have c2:=oZ c2
 refine And.intro (fun h=>absurd ((rj h).symm.trans hc) (by decide)) ?_
 intro c3
 have c3:=oZ c3
 refine And.intro ?_ (fun h=>absurd hc (oZ h))
 intro c4
 have c4:=rj c4
 have hB:dE k aL=((aL.tdiv 6).tmod 11,[⟨ah k,0,(k.tdiv 252).tmod 4,1+(k.tdiv 36).tmod 7⟩]):=by unfold dE; simp only; rw [if_neg (by omega),if_neg (by omega),if_pos (by omega)]
 repeat refine ⟨fun _=>by assumption,?_⟩
 refine Or.inr ?_
 refine Or.inl ?_
 refine ⟨[de ⟨ah k,0,(k.tdiv 252).tmod 4,1+(k.tdiv 36).tmod 7⟩],rfl,⟨rf,rf,rf,rf,rf,tv⟩,(by simp; rfl),?_⟩
 unfold jI; rw [hB]
 refine ⟨id,fun _=>cf,fun _=>cg,id,fun _=>z9,id,fun _ h=>aA h,?_⟩
 refine And.intro ?_ ?_
 ·intro ie
  have hq:=qt ie
  refine ⟨fun _=>cy,fun _=>cz,fun _=>z3,fun _=>s0,?_⟩
  refine ⟨fun _=>⟨Int.le_refl 0,by simp⟩,[I ((aL.tdiv 540).tmod 3 - 1)],⟨rf,tv⟩,de ⟨ah k,0,(k.tdiv 252).tmod 4,1+(k.tdiv 36).tmod 7⟩,rfl,?_⟩
  refine ⟨id,fun _=>cf,fun _=>cg,id,fun _=>z9,id,fun _ h=>aA h,?_⟩
  refine And.intro ?_ ?_
  ·intro h; exact absurd ((qt h).2.symm.trans hq.2) (by decide)
  intro _
  refine ⟨id,fun _=>cf,fun _=>cg,id,fun _=>z9,id,fun _ h=>aA h,?_⟩
  refine And.intro ?_ ?_
  ·intro h; exact absurd ((qt h).2.symm.trans hq.2) (by decide)
  intro _
  refine ⟨id,fun _=>cf,fun _=>cg,id,fun _=>z9,id,fun _ h=>aA h,?_⟩
  refine And.intro ?_ ?_
  ·intro h; exact absurd ((qt h).2.symm.trans hq.2) (by decide)
  intro _
  rw [lJ hq]
  exact ⟨rf,tv⟩
 intro ie
 refine ⟨id,fun _=>cf,fun _=>cg,id,fun _=>z9,id,fun _ h=>aA h,?_⟩
 refine And.intro ?_ ?_
 ·intro ik
  have hq:=qt ik
  refine ⟨fun _=>cy,fun _=>cz,fun _=>z2,fun _=>wz,fun _=>wA,?_⟩
  refine ⟨fun _=>⟨Int.le_refl 0,by simp⟩,[I (4 - (aL.tdiv 540).tmod 2 * 5)],⟨rf,tv⟩,de ⟨ah k,0,(k.tdiv 252).tmod 4,1+(k.tdiv 36).tmod 7⟩,rfl,?_⟩
  refine ⟨id,fun _=>cf,fun _=>cg,id,fun _=>z9,id,fun _ h=>aA h,?_⟩
  refine And.intro ?_ ?_
  ·intro h; exact absurd ((qt h).2.symm.trans hq.2) (by decide)
  intro _
  refine ⟨id,fun _=>cf,fun _=>cg,id,fun _=>z9,id,fun _ h=>aA h,?_⟩
  refine And.intro ?_ ?_
  ·intro h; exact absurd ((qt h).2.symm.trans hq.2) (by decide)
  intro _
  rw [lK hq]
  exact ⟨rf,tv⟩
 intro ik
 refine ⟨id,fun _=>cf,fun _=>cg,id,fun _=>z9,id,fun _ h=>aA h,?_⟩
 refine And.intro ?_ ?_
 ·intro fL
  have hq:=qt fL
  refine ⟨fun _=>wB,fun _=>cy,fun _=>cz,fun _=>z3,fun _=>wC,?_⟩
  refine ⟨id,fun _=>cf,fun _=>cg,id,fun _=>z9,id,fun _ h=>aA h,?_⟩
  refine And.intro ?_ ?_
  ·intro h; exact absurd ((qt h).2.symm.trans hq.2) (by decide)
  intro _
  rw [lL hq]
  exact ⟨rf,tv⟩
 intro fL
 refine ⟨id,fun _=>cf,fun _=>cg,id,fun _=>z9,id,fun _ h=>aA h,?_⟩
 refine And.intro ?_ ?_
 ·intro jo
  have hq:=qt jo
  skip
  refine ⟨fun _=>⟨Int.le_refl 0,by simp⟩,de ⟨ah k,0,(k.tdiv 252).tmod 4,1+(k.tdiv 36).tmod 7⟩,fun _=>rfl,?_⟩
  refine ⟨fun _=>cy,fun _=>cz,fun _=>z2,fun _=>wD,fun _=>⟨by show _≤ah k - (aL.tdiv 540).tmod 2 * 1073741825; omega,by show ah k - (aL.tdiv 540).tmod 2 * 1073741825≤_; omega⟩,?_⟩
  refine ⟨fun _=>⟨Int.le_refl 0,by simp⟩,[I (ah k - (aL.tdiv 540).tmod 2 * 1073741825)],⟨rf,tv⟩,de ⟨ah k,0,(k.tdiv 252).tmod 4,1+(k.tdiv 36).tmod 7⟩,rfl,?_⟩
  refine ⟨by kernel_rfl,?_⟩
  rw [lM hq]
  exact ⟨rf,tv⟩
 intro jo
 rw [lN (qf ie) (qf ik) (qf fL) (qf jo)]
 exact ⟨rf,tv⟩
set_option maxHeartbeats 4000000 in
theorem LI (l:List Int) (hl:∀x∈l,yY x) (at' tick:Int) (bad:Bool) (ha:0≤at'∧at'≤1000000) (ht:0≤tick∧tick≤1099511627776) (hc:(bm l (at'+1) 1000000).tmod 6=5):eh Tryz.prog 19 [pX l,I at',I tick,B bad] [La (fF l at' tick bad)]:=by
 refine cM aW mixed (aw _) (ay _) Tryz.func19 rfl (by kernel_rfl) rfl ?_
 have AN:=ct l at' 1000000 hl (by omega) (by omega)
 have oR:=ct l (at'+1) 1000000 hl (by omega) (by omega)
 obtain ⟨k0,k1⟩:=cO l at' 1000000 (by omega)
 obtain ⟨w0,w1⟩:=cO l (at'+1) 1000000 (by omega)
 refine .inl ⟨_,fun _=>AN.ok,?_⟩
 unfold fF
 generalize bm l at' 1000000=k at *
 generalize bm l (at'+1) 1000000=aL at *
 obtain ⟨d6,d36,lV,gw,e6,Bp,mQ,gZ,m6,Lq,m7,Lr,m4,Ls,n4,Lt,f6,f54,f60,lx,g6,Bq,Br,mR,h9,Lu,C6,zh,h3,GW,h2,B4,i2,Lv,ba,bb,cf,cy,Lw,z9,z6,Lx,z3,z2,cg,cz,Ly,o6,s0,wz,wA,wB,wC,wD,b3,b5,LA,LB,LC,b9,LD⟩:=sm k0 k1 w0 w1 ht
 refine .inl ⟨_,fun _=>(bn k k0).ok,?_⟩
 repeat first | refine ⟨fun _=>⟨by omega,by omega⟩,?_⟩ | refine ⟨fun _ h=>by omega,?_⟩
 refine .inl ⟨_,fun _=>(bn (k.tdiv 6+1+k.tmod 6) (by omega)).ok,?_⟩
 repeat first | refine ⟨fun _=>⟨by omega,by omega⟩,?_⟩ | refine ⟨fun _ h=>by omega,?_⟩
 refine .inl ⟨_,fun _=>oR.ok,?_⟩
 repeat first | refine ⟨fun _=>⟨by omega,by omega⟩,?_⟩ | refine ⟨fun _ h=>by omega,?_⟩
 clear e6 Bp mQ gZ g6 Bq Br mR d6 d36 lV gw f6 f54 f60 lx
 refine And.intro (fun h=>absurd ((rj h).symm.trans hc) (by decide)) ?_
 intro c0
 have c0:=oZ c0
 refine And.intro (fun h=>absurd ((rj h).symm.trans hc) (by decide)) ?_
 intro c1
 have c1:=oZ c1
 refine And.intro (fun h=>absurd ((rj h).symm.trans hc) (by decide)) ?_
 intro c2
 have c2:=oZ c2
 refine And.intro (fun h=>absurd ((rj h).symm.trans hc) (by decide)) ?_
 intro c3
 have c3:=oZ c3
 refine And.intro (fun h=>absurd ((rj h).symm.trans hc) (by decide)) ?_
 intro c4
 have c4:=oZ c4
 have hB:dE k aL=(2,[⟨0,ah k,(k.tdiv 252).tmod 4,1+(k.tdiv 36).tmod 7⟩,⟨ah k,3 * ah k,(k.tdiv 252).tmod 4,1+(k.tdiv 36).tmod 7⟩,⟨3 * ah k,ah k,(k.tdiv 252).tmod 4,1⟩]):=by unfold dE; simp only; rw [if_neg (by omega),if_neg (by omega),if_neg (by omega)]
 repeat refine ⟨fun _=>by assumption,?_⟩
 refine Or.inr ?_
 refine Or.inl ?_
 refine ⟨[de ⟨0,ah k,(k.tdiv 252).tmod 4,1+(k.tdiv 36).tmod 7⟩,de ⟨ah k,3 * ah k,(k.tdiv 252).tmod 4,1+(k.tdiv 36).tmod 7⟩,de ⟨3 * ah k,ah k,(k.tdiv 252).tmod 4,1⟩],rfl,⟨rf,rf,rf,rf,rf,rf,rf,rf,rf,rf,rf,rf,rf,rf,rf,tv⟩,(by simp; exact ⟨rfl,rfl,rfl⟩),?_⟩
 unfold jI; rw [hB]
 refine ⟨id,fun _=>cf,fun _=>cg,id,fun _=>z9,id,fun _ h=>aA h,?_⟩
 refine And.intro ?_ ?_
 ·intro ie
  have hq:=qt ie
  refine ⟨fun _=>cy,fun _=>cz,fun _=>z3,fun _=>s0,?_⟩
  refine ⟨fun _=>⟨Int.le_refl 0,by simp⟩,[I ((aL.tdiv 540).tmod 3 - 1)],⟨rf,tv⟩,de ⟨0,ah k,(k.tdiv 252).tmod 4,1+(k.tdiv 36).tmod 7⟩,rfl,?_⟩
  refine ⟨id,fun _=>cf,fun _=>cg,id,fun _=>z9,id,fun _ h=>aA h,?_⟩
  refine And.intro ?_ ?_
  ·intro h; exact absurd ((qt h).2.symm.trans hq.2) (by decide)
  intro _
  refine ⟨id,fun _=>cf,fun _=>cg,id,fun _=>z9,id,fun _ h=>aA h,?_⟩
  refine And.intro ?_ ?_
  ·intro h; exact absurd ((qt h).2.symm.trans hq.2) (by decide)
  intro _
  refine ⟨id,fun _=>cf,fun _=>cg,id,fun _=>z9,id,fun _ h=>aA h,?_⟩
  refine And.intro ?_ ?_
  ·intro h; exact absurd ((qt h).2.symm.trans hq.2) (by decide)
  intro _
  rw [lJ hq]
  exact ⟨rf,tv⟩
 intro ie
 refine ⟨id,fun _=>cf,fun _=>cg,id,fun _=>z9,id,fun _ h=>aA h,?_⟩
 refine And.intro ?_ ?_
 ·intro ik
  have hq:=qt ik
  refine ⟨fun _=>cy,fun _=>cz,fun _=>z2,fun _=>wz,fun _=>wA,?_⟩
  refine ⟨fun _=>⟨Int.le_refl 0,by simp⟩,[I (4 - (aL.tdiv 540).tmod 2 * 5)],⟨rf,tv⟩,de ⟨0,ah k,(k.tdiv 252).tmod 4,1+(k.tdiv 36).tmod 7⟩,rfl,?_⟩
  refine ⟨id,fun _=>cf,fun _=>cg,id,fun _=>z9,id,fun _ h=>aA h,?_⟩
  refine And.intro ?_ ?_
  ·intro h; exact absurd ((qt h).2.symm.trans hq.2) (by decide)
  intro _
  refine ⟨id,fun _=>cf,fun _=>cg,id,fun _=>z9,id,fun _ h=>aA h,?_⟩
  refine And.intro ?_ ?_
  ·intro h; exact absurd ((qt h).2.symm.trans hq.2) (by decide)
  intro _
  rw [lK hq]
  exact ⟨rf,tv⟩
 intro ik
 refine ⟨id,fun _=>cf,fun _=>cg,id,fun _=>z9,id,fun _ h=>aA h,?_⟩
 refine And.intro ?_ ?_
 ·intro fL
  have hq:=qt fL
  refine ⟨fun _=>wB,fun _=>cy,fun _=>cz,fun _=>z3,fun _=>wC,?_⟩
  refine ⟨id,fun _=>cf,fun _=>cg,id,fun _=>z9,id,fun _ h=>aA h,?_⟩
  refine And.intro ?_ ?_
  ·intro h; exact absurd ((qt h).2.symm.trans hq.2) (by decide)
  intro _
  rw [lL hq]
  exact ⟨rf,tv⟩
 intro fL
 refine ⟨id,fun _=>cf,fun _=>cg,id,fun _=>z9,id,fun _ h=>aA h,?_⟩
 refine And.intro ?_ ?_
 ·intro jo
  have hq:=qt jo
  skip
  refine ⟨fun _=>⟨Int.le_refl 0,by simp⟩,de ⟨0,ah k,(k.tdiv 252).tmod 4,1+(k.tdiv 36).tmod 7⟩,fun _=>rfl,?_⟩
  refine ⟨fun _=>cy,fun _=>cz,fun _=>z2,fun _=>wD,fun _=>⟨by show _≤0 - (aL.tdiv 540).tmod 2 * 1073741825; omega,by show 0 - (aL.tdiv 540).tmod 2 * 1073741825≤_; omega⟩,?_⟩
  refine ⟨fun _=>⟨Int.le_refl 0,by simp⟩,[I (0 - (aL.tdiv 540).tmod 2 * 1073741825)],⟨rf,tv⟩,de ⟨0,ah k,(k.tdiv 252).tmod 4,1+(k.tdiv 36).tmod 7⟩,rfl,?_⟩
  refine ⟨by kernel_rfl,?_⟩
  rw [lM hq]
  exact ⟨rf,tv⟩
 intro jo
 rw [lN (qf ie) (qf ik) (qf fL) (qf jo)]
 exact ⟨rf,tv⟩
end Go.Proofs.YtpbdohkbiklflaaGreatDoor
namespace Go.Proofs.YtpbdohkbiklflaaGreatDoor
open Go.TM
variable [cQ]
set_option maxRecDepth 100000
set_option maxHeartbeats 4000000 in
theorem Jl (l:List Int) (hl:∀x∈l,yY x) (at' tick:Int) (bad:Bool) (ha:0≤at'∧at'≤1000000) (ht:0≤tick∧tick≤1099511627776) (hc:(bm l (at'+1) 1000000).tmod 6=2) (hd:ah (bm l at' 1000000)=ah ((bm l at' 1000000).tdiv 6+1+(bm l at' 1000000).tmod 6)):eh Tryz.prog 19 [pX l,I at',I tick,B bad] [La (fF l at' tick bad)]:=by
 refine cM aW mixed (aw _) (ay _) Tryz.func19 rfl (by kernel_rfl) rfl ?_
 have AN:=ct l at' 1000000 hl (by omega) (by omega)
 have oR:=ct l (at'+1) 1000000 hl (by omega) (by omega)
 obtain ⟨k0,k1⟩:=cO l at' 1000000 (by omega)
 obtain ⟨w0,w1⟩:=cO l (at'+1) 1000000 (by omega)
 refine .inl ⟨_,fun _=>AN.ok,?_⟩
 unfold fF
 generalize bm l at' 1000000=k at *
 generalize bm l (at'+1) 1000000=aL at *
 obtain ⟨d6,d36,lV,gw,e6,Bp,mQ,gZ,m6,Lq,m7,Lr,m4,Ls,n4,Lt,f6,f54,f60,lx,g6,Bq,Br,mR,h9,Lu,C6,zh,h3,GW,h2,B4,i2,Lv,ba,bb,cf,cy,Lw,z9,z6,Lx,z3,z2,cg,cz,Ly,o6,s0,wz,wA,wB,wC,wD,b3,b5,LA,LB,LC,b9,LD⟩:=sm k0 k1 w0 w1 ht
 refine .inl ⟨_,fun _=>(bn k k0).ok,?_⟩
 repeat first | refine ⟨fun _=>⟨by omega,by omega⟩,?_⟩ | refine ⟨fun _ h=>by omega,?_⟩
 refine .inl ⟨_,fun _=>(bn (k.tdiv 6+1+k.tmod 6) (by omega)).ok,?_⟩
 repeat first | refine ⟨fun _=>⟨by omega,by omega⟩,?_⟩ | refine ⟨fun _ h=>by omega,?_⟩
 refine .inl ⟨_,fun _=>oR.ok,?_⟩
 repeat first | refine ⟨fun _=>⟨by omega,by omega⟩,?_⟩ | refine ⟨fun _ h=>by omega,?_⟩
 clear e6 Bp mQ gZ g6 Bq Br mR d6 d36 lV gw f6 f54 f60 lx
 refine And.intro (fun h=>absurd ((rj h).symm.trans hc) (by decide)) ?_
 intro c0
 have c0:=oZ c0
 refine And.intro (fun h=>absurd ((rj h).symm.trans hc) (by decide)) ?_
 intro c1
 have c1:=oZ c1
 refine And.intro ?_ (fun h=>absurd hc (oZ h))
 intro c2
 have c2:=rj c2
 refine And.intro ?_ (fun h=>absurd c2 (oZ h))
 intro _
 refine And.intro ?_ (fun h=>absurd hd (by simpa using h))
 ·intro rF
  have rF:ah k=ah (k.tdiv 6+1+k.tmod 6):=by simpa using rF
  repeat refine ⟨fun _=>by assumption,?_⟩
  refine Or.inr ?_
  refine Or.inl ?_
  refine ⟨[de ⟨ah k,ah k+1,((k.tdiv 252).tmod 4).tdiv 2 * 2,1+(k.tdiv 36).tmod 7⟩,de ⟨ah k+1,ah k,1,1+(aL.tdiv 6).tmod 9⟩],rfl,⟨rf,rf,rf,rf,rf,rf,rf,rf,rf,rf,tv⟩,(by simp; exact ⟨rfl,rfl⟩),?_⟩
  repeat refine ⟨fun _=>by assumption,?_⟩
  refine And.intro ?_ ?_
  ·intro oS
   have oS:(aL.tdiv 54).tmod 2=1:=by simpa using oS
   have hB:dE k aL=(2,[⟨ah k+1,ah k,1,1+(aL.tdiv 6).tmod 9⟩,⟨ah k,ah k+1,((k.tdiv 252).tmod 4).tdiv 2 * 2,1+(k.tdiv 36).tmod 7⟩]):=by unfold dE; simp only; rw [if_neg (by omega),if_pos (by omega),if_pos rF,if_pos oS]
   refine ⟨fun _=>⟨by decide,by simp⟩,de ⟨ah k+1,ah k,1,1+(aL.tdiv 6).tmod 9⟩,fun _=>rfl,?_⟩
   refine ⟨fun _=>⟨Int.le_refl 0,by simp⟩,de ⟨ah k,ah k+1,((k.tdiv 252).tmod 4).tdiv 2 * 2,1+(k.tdiv 36).tmod 7⟩,fun _=>rfl,?_⟩
   refine Or.inr ?_
   refine Or.inl ?_
   refine ⟨[de ⟨ah k+1,ah k,1,1+(aL.tdiv 6).tmod 9⟩,de ⟨ah k,ah k+1,((k.tdiv 252).tmod 4).tdiv 2 * 2,1+(k.tdiv 36).tmod 7⟩],rfl,⟨rf,rf,rf,rf,rf,rf,rf,rf,rf,rf,tv⟩,(by simp; exact ⟨rfl,rfl⟩),?_⟩
   refine ⟨by kernel_rfl,?_⟩
   unfold jI; rw [hB]
   refine ⟨id,fun _=>cf,fun _=>cg,id,fun _=>z9,id,fun _ h=>aA h,?_⟩
   refine And.intro ?_ ?_
   ·intro ie
    have hq:=qt ie
    refine ⟨fun _=>cy,fun _=>cz,fun _=>z3,fun _=>s0,?_⟩
    refine ⟨fun _=>⟨Int.le_refl 0,by simp⟩,[I ((aL.tdiv 540).tmod 3 - 1)],⟨rf,tv⟩,de ⟨ah k+1,ah k,1,1+(aL.tdiv 6).tmod 9⟩,rfl,?_⟩
    refine ⟨id,fun _=>cf,fun _=>cg,id,fun _=>z9,id,fun _ h=>aA h,?_⟩
    refine And.intro ?_ ?_
    ·intro h; exact absurd ((qt h).2.symm.trans hq.2) (by decide)
    intro _
    refine ⟨id,fun _=>cf,fun _=>cg,id,fun _=>z9,id,fun _ h=>aA h,?_⟩
    refine And.intro ?_ ?_
    ·intro h; exact absurd ((qt h).2.symm.trans hq.2) (by decide)
    intro _
    refine ⟨id,fun _=>cf,fun _=>cg,id,fun _=>z9,id,fun _ h=>aA h,?_⟩
    refine And.intro ?_ ?_
    ·intro h; exact absurd ((qt h).2.symm.trans hq.2) (by decide)
    intro _
    rw [lJ hq]
    exact ⟨rf,tv⟩
   intro ie
   refine ⟨id,fun _=>cf,fun _=>cg,id,fun _=>z9,id,fun _ h=>aA h,?_⟩
   refine And.intro ?_ ?_
   ·intro ik
    have hq:=qt ik
    refine ⟨fun _=>cy,fun _=>cz,fun _=>z2,fun _=>wz,fun _=>wA,?_⟩
    refine ⟨fun _=>⟨Int.le_refl 0,by simp⟩,[I (4 - (aL.tdiv 540).tmod 2 * 5)],⟨rf,tv⟩,de ⟨ah k+1,ah k,1,1+(aL.tdiv 6).tmod 9⟩,rfl,?_⟩
    refine ⟨id,fun _=>cf,fun _=>cg,id,fun _=>z9,id,fun _ h=>aA h,?_⟩
    refine And.intro ?_ ?_
    ·intro h; exact absurd ((qt h).2.symm.trans hq.2) (by decide)
    intro _
    refine ⟨id,fun _=>cf,fun _=>cg,id,fun _=>z9,id,fun _ h=>aA h,?_⟩
    refine And.intro ?_ ?_
    ·intro h; exact absurd ((qt h).2.symm.trans hq.2) (by decide)
    intro _
    rw [lK hq]
    exact ⟨rf,tv⟩
   intro ik
   refine ⟨id,fun _=>cf,fun _=>cg,id,fun _=>z9,id,fun _ h=>aA h,?_⟩
   refine And.intro ?_ ?_
   ·intro fL
    have hq:=qt fL
    refine ⟨fun _=>wB,fun _=>cy,fun _=>cz,fun _=>z3,fun _=>wC,?_⟩
    refine ⟨id,fun _=>cf,fun _=>cg,id,fun _=>z9,id,fun _ h=>aA h,?_⟩
    refine And.intro ?_ ?_
    ·intro h; exact absurd ((qt h).2.symm.trans hq.2) (by decide)
    intro _
    rw [lL hq]
    exact ⟨rf,tv⟩
   intro fL
   refine ⟨id,fun _=>cf,fun _=>cg,id,fun _=>z9,id,fun _ h=>aA h,?_⟩
   refine And.intro ?_ ?_
   ·intro jo
    have hq:=qt jo
    skip
    refine ⟨fun _=>⟨Int.le_refl 0,by simp⟩,de ⟨ah k+1,ah k,1,1+(aL.tdiv 6).tmod 9⟩,fun _=>rfl,?_⟩
    refine ⟨fun _=>cy,fun _=>cz,fun _=>z2,fun _=>wD,fun _=>⟨by show _≤ah k+1 - (aL.tdiv 540).tmod 2 * 1073741825; omega,by show ah k+1 - (aL.tdiv 540).tmod 2 * 1073741825≤_; omega⟩,?_⟩
    refine ⟨fun _=>⟨Int.le_refl 0,by simp⟩,[I (ah k+1 - (aL.tdiv 540).tmod 2 * 1073741825)],⟨rf,tv⟩,de ⟨ah k+1,ah k,1,1+(aL.tdiv 6).tmod 9⟩,rfl,?_⟩
    refine ⟨by kernel_rfl,?_⟩
    rw [lM hq]
    exact ⟨rf,tv⟩
   intro jo
   rw [lN (qf ie) (qf ik) (qf fL) (qf jo)]
   exact ⟨rf,tv⟩
  ·intro oS
   have oS:¬ (aL.tdiv 54).tmod 2=1:=by simpa using oS
   have hB:dE k aL=(2,[⟨ah k,ah k+1,((k.tdiv 252).tmod 4).tdiv 2 * 2,1+(k.tdiv 36).tmod 7⟩,⟨ah k+1,ah k,1,1+(aL.tdiv 6).tmod 9⟩]):=by unfold dE; simp only; rw [if_neg (by omega),if_pos (by omega),if_pos rF,if_neg oS]
   unfold jI; rw [hB]
   refine ⟨id,fun _=>cf,fun _=>cg,id,fun _=>z9,id,fun _ h=>aA h,?_⟩
   refine And.intro ?_ ?_
   ·intro ie
    have hq:=qt ie
    refine ⟨fun _=>cy,fun _=>cz,fun _=>z3,fun _=>s0,?_⟩
    refine ⟨fun _=>⟨Int.le_refl 0,by simp⟩,[I ((aL.tdiv 540).tmod 3 - 1)],⟨rf,tv⟩,de ⟨ah k,ah k+1,((k.tdiv 252).tmod 4).tdiv 2 * 2,1+(k.tdiv 36).tmod 7⟩,rfl,?_⟩
    refine ⟨id,fun _=>cf,fun _=>cg,id,fun _=>z9,id,fun _ h=>aA h,?_⟩
    refine And.intro ?_ ?_
    ·intro h; exact absurd ((qt h).2.symm.trans hq.2) (by decide)
    intro _
    refine ⟨id,fun _=>cf,fun _=>cg,id,fun _=>z9,id,fun _ h=>aA h,?_⟩
    refine And.intro ?_ ?_
    ·intro h; exact absurd ((qt h).2.symm.trans hq.2) (by decide)
    intro _
    refine ⟨id,fun _=>cf,fun _=>cg,id,fun _=>z9,id,fun _ h=>aA h,?_⟩
    refine And.intro ?_ ?_
    ·intro h; exact absurd ((qt h).2.symm.trans hq.2) (by decide)
    intro _
    rw [lJ hq]
    exact ⟨rf,tv⟩
   intro ie
   refine ⟨id,fun _=>cf,fun _=>cg,id,fun _=>z9,id,fun _ h=>aA h,?_⟩
   refine And.intro ?_ ?_
   ·intro ik
    have hq:=qt ik
    refine ⟨fun _=>cy,fun _=>cz,fun _=>z2,fun _=>wz,fun _=>wA,?_⟩
    refine ⟨fun _=>⟨Int.le_refl 0,by simp⟩,[I (4 - (aL.tdiv 540).tmod 2 * 5)],⟨rf,tv⟩,de ⟨ah k,ah k+1,((k.tdiv 252).tmod 4).tdiv 2 * 2,1+(k.tdiv 36).tmod 7⟩,rfl,?_⟩
    refine ⟨id,fun _=>cf,fun _=>cg,id,fun _=>z9,id,fun _ h=>aA h,?_⟩
    refine And.intro ?_ ?_
    ·intro h; exact absurd ((qt h).2.symm.trans hq.2) (by decide)
    intro _
    refine ⟨id,fun _=>cf,fun _=>cg,id,fun _=>z9,id,fun _ h=>aA h,?_⟩
    refine And.intro ?_ ?_
    ·intro h; exact absurd ((qt h).2.symm.trans hq.2) (by decide)
    intro _
    rw [lK hq]
    exact ⟨rf,tv⟩
   intro ik
   refine ⟨id,fun _=>cf,fun _=>cg,id,fun _=>z9,id,fun _ h=>aA h,?_⟩
   refine And.intro ?_ ?_
   ·intro fL
    have hq:=qt fL
    refine ⟨fun _=>wB,fun _=>cy,fun _=>cz,fun _=>z3,fun _=>wC,?_⟩
    refine ⟨id,fun _=>cf,fun _=>cg,id,fun _=>z9,id,fun _ h=>aA h,?_⟩
    refine And.intro ?_ ?_
    ·intro h; exact absurd ((qt h).2.symm.trans hq.2) (by decide)
    intro _
    rw [lL hq]
    exact ⟨rf,tv⟩
   intro fL
   refine ⟨id,fun _=>cf,fun _=>cg,id,fun _=>z9,id,fun _ h=>aA h,?_⟩
   refine And.intro ?_ ?_
   ·intro jo
    have hq:=qt jo
    skip
    refine ⟨fun _=>⟨Int.le_refl 0,by simp⟩,de ⟨ah k,ah k+1,((k.tdiv 252).tmod 4).tdiv 2 * 2,1+(k.tdiv 36).tmod 7⟩,fun _=>rfl,?_⟩
    refine ⟨fun _=>cy,fun _=>cz,fun _=>z2,fun _=>wD,fun _=>⟨by show _≤ah k - (aL.tdiv 540).tmod 2 * 1073741825; omega,by show ah k - (aL.tdiv 540).tmod 2 * 1073741825≤_; omega⟩,?_⟩
    refine ⟨fun _=>⟨Int.le_refl 0,by simp⟩,[I (ah k - (aL.tdiv 540).tmod 2 * 1073741825)],⟨rf,tv⟩,de ⟨ah k,ah k+1,((k.tdiv 252).tmod 4).tdiv 2 * 2,1+(k.tdiv 36).tmod 7⟩,rfl,?_⟩
    refine ⟨by kernel_rfl,?_⟩
    rw [lM hq]
    exact ⟨rf,tv⟩
   intro jo
   rw [lN (qf ie) (qf ik) (qf fL) (qf jo)]
   exact ⟨rf,tv⟩
end Go.Proofs.YtpbdohkbiklflaaGreatDoor
namespace Go.Proofs.YtpbdohkbiklflaaGreatDoor
open Go.TM
variable [cQ]
set_option maxRecDepth 100000
set_option maxHeartbeats 4000000 in
theorem Jm (l:List Int) (hl:∀x∈l,yY x) (at' tick:Int) (bad:Bool) (ha:0≤at'∧at'≤1000000) (ht:0≤tick∧tick≤1099511627776) (hc:(bm l (at'+1) 1000000).tmod 6=2) (hd:¬ ah (bm l at' 1000000)=ah ((bm l at' 1000000).tdiv 6+1+(bm l at' 1000000).tmod 6)):eh Tryz.prog 19 [pX l,I at',I tick,B bad] [La (fF l at' tick bad)]:=by
 refine cM aW mixed (aw _) (ay _) Tryz.func19 rfl (by kernel_rfl) rfl ?_
 have AN:=ct l at' 1000000 hl (by omega) (by omega)
 have oR:=ct l (at'+1) 1000000 hl (by omega) (by omega)
 obtain ⟨k0,k1⟩:=cO l at' 1000000 (by omega)
 obtain ⟨w0,w1⟩:=cO l (at'+1) 1000000 (by omega)
 refine .inl ⟨_,fun _=>AN.ok,?_⟩
 unfold fF
 generalize bm l at' 1000000=k at *
 generalize bm l (at'+1) 1000000=aL at *
 obtain ⟨d6,d36,lV,gw,e6,Bp,mQ,gZ,m6,Lq,m7,Lr,m4,Ls,n4,Lt,f6,f54,f60,lx,g6,Bq,Br,mR,h9,Lu,C6,zh,h3,GW,h2,B4,i2,Lv,ba,bb,cf,cy,Lw,z9,z6,Lx,z3,z2,cg,cz,Ly,o6,s0,wz,wA,wB,wC,wD,b3,b5,LA,LB,LC,b9,LD⟩:=sm k0 k1 w0 w1 ht
 refine .inl ⟨_,fun _=>(bn k k0).ok,?_⟩
 repeat first | refine ⟨fun _=>⟨by omega,by omega⟩,?_⟩ | refine ⟨fun _ h=>by omega,?_⟩
 refine .inl ⟨_,fun _=>(bn (k.tdiv 6+1+k.tmod 6) (by omega)).ok,?_⟩
 repeat first | refine ⟨fun _=>⟨by omega,by omega⟩,?_⟩ | refine ⟨fun _ h=>by omega,?_⟩
 refine .inl ⟨_,fun _=>oR.ok,?_⟩
 repeat first | refine ⟨fun _=>⟨by omega,by omega⟩,?_⟩ | refine ⟨fun _ h=>by omega,?_⟩
 clear e6 Bp mQ gZ g6 Bq Br mR d6 d36 lV gw f6 f54 f60 lx
 refine And.intro (fun h=>absurd ((rj h).symm.trans hc) (by decide)) ?_
 intro c0
 have c0:=oZ c0
 refine And.intro (fun h=>absurd ((rj h).symm.trans hc) (by decide)) ?_
 intro c1
 have c1:=oZ c1
 refine And.intro ?_ (fun h=>absurd hc (oZ h))
 intro c2
 have c2:=rj c2
 refine And.intro ?_ (fun h=>absurd c2 (oZ h))
 intro _
 refine And.intro (fun h=>absurd (by simpa using h) hd) ?_
 ·intro rF
  have rF:¬ ah k=ah (k.tdiv 6+1+k.tmod 6):=by simpa using rF
  repeat refine ⟨fun _=>by assumption,?_⟩
  refine Or.inr ?_
  refine Or.inl ?_
  refine ⟨[de ⟨ah k,ah (k.tdiv 6+1+k.tmod 6),((k.tdiv 252).tmod 4).tdiv 2 * 2,1+(k.tdiv 36).tmod 7⟩,de ⟨ah (k.tdiv 6+1+k.tmod 6),ah k,1,1+(aL.tdiv 6).tmod 9⟩],rfl,⟨rf,rf,rf,rf,rf,rf,rf,rf,rf,rf,tv⟩,(by simp; exact ⟨rfl,rfl⟩),?_⟩
  repeat refine ⟨fun _=>by assumption,?_⟩
  refine And.intro ?_ ?_
  ·intro oS
   have oS:(aL.tdiv 54).tmod 2=1:=by simpa using oS
   have hB:dE k aL=(2,[⟨ah (k.tdiv 6+1+k.tmod 6),ah k,1,1+(aL.tdiv 6).tmod 9⟩,⟨ah k,ah (k.tdiv 6+1+k.tmod 6),((k.tdiv 252).tmod 4).tdiv 2 * 2,1+(k.tdiv 36).tmod 7⟩]):=by unfold dE; simp only; rw [if_neg (by omega),if_pos (by omega),if_neg rF,if_pos oS]
   refine ⟨fun _=>⟨by decide,by simp⟩,de ⟨ah (k.tdiv 6+1+k.tmod 6),ah k,1,1+(aL.tdiv 6).tmod 9⟩,fun _=>rfl,?_⟩
   refine ⟨fun _=>⟨Int.le_refl 0,by simp⟩,de ⟨ah k,ah (k.tdiv 6+1+k.tmod 6),((k.tdiv 252).tmod 4).tdiv 2 * 2,1+(k.tdiv 36).tmod 7⟩,fun _=>rfl,?_⟩
   refine Or.inr ?_
   refine Or.inl ?_
   refine ⟨[de ⟨ah (k.tdiv 6+1+k.tmod 6),ah k,1,1+(aL.tdiv 6).tmod 9⟩,de ⟨ah k,ah (k.tdiv 6+1+k.tmod 6),((k.tdiv 252).tmod 4).tdiv 2 * 2,1+(k.tdiv 36).tmod 7⟩],rfl,⟨rf,rf,rf,rf,rf,rf,rf,rf,rf,rf,tv⟩,(by simp; exact ⟨rfl,rfl⟩),?_⟩
   refine ⟨by kernel_rfl,?_⟩
   unfold jI; rw [hB]
   refine ⟨id,fun _=>cf,fun _=>cg,id,fun _=>z9,id,fun _ h=>aA h,?_⟩
   refine And.intro ?_ ?_
   ·intro ie
    have hq:=qt ie
    refine ⟨fun _=>cy,fun _=>cz,fun _=>z3,fun _=>s0,?_⟩
    refine ⟨fun _=>⟨Int.le_refl 0,by simp⟩,[I ((aL.tdiv 540).tmod 3 - 1)],⟨rf,tv⟩,de ⟨ah (k.tdiv 6+1+k.tmod 6),ah k,1,1+(aL.tdiv 6).tmod 9⟩,rfl,?_⟩
    refine ⟨id,fun _=>cf,fun _=>cg,id,fun _=>z9,id,fun _ h=>aA h,?_⟩
    refine And.intro ?_ ?_
    ·intro h; exact absurd ((qt h).2.symm.trans hq.2) (by decide)
    intro _
    refine ⟨id,fun _=>cf,fun _=>cg,id,fun _=>z9,id,fun _ h=>aA h,?_⟩
    refine And.intro ?_ ?_
    ·intro h; exact absurd ((qt h).2.symm.trans hq.2) (by decide)
    intro _
    refine ⟨id,fun _=>cf,fun _=>cg,id,fun _=>z9,id,fun _ h=>aA h,?_⟩
    refine And.intro ?_ ?_
    ·intro h; exact absurd ((qt h).2.symm.trans hq.2) (by decide)
    intro _
    rw [lJ hq]
    exact ⟨rf,tv⟩
   intro ie
   refine ⟨id,fun _=>cf,fun _=>cg,id,fun _=>z9,id,fun _ h=>aA h,?_⟩
   refine And.intro ?_ ?_
   ·intro ik
    have hq:=qt ik
    refine ⟨fun _=>cy,fun _=>cz,fun _=>z2,fun _=>wz,fun _=>wA,?_⟩
    refine ⟨fun _=>⟨Int.le_refl 0,by simp⟩,[I (4 - (aL.tdiv 540).tmod 2 * 5)],⟨rf,tv⟩,de ⟨ah (k.tdiv 6+1+k.tmod 6),ah k,1,1+(aL.tdiv 6).tmod 9⟩,rfl,?_⟩
    refine ⟨id,fun _=>cf,fun _=>cg,id,fun _=>z9,id,fun _ h=>aA h,?_⟩
    refine And.intro ?_ ?_
    ·intro h; exact absurd ((qt h).2.symm.trans hq.2) (by decide)
    intro _
    refine ⟨id,fun _=>cf,fun _=>cg,id,fun _=>z9,id,fun _ h=>aA h,?_⟩
    refine And.intro ?_ ?_
    ·intro h; exact absurd ((qt h).2.symm.trans hq.2) (by decide)
    intro _
    rw [lK hq]
    exact ⟨rf,tv⟩
   intro ik
   refine ⟨id,fun _=>cf,fun _=>cg,id,fun _=>z9,id,fun _ h=>aA h,?_⟩
   refine And.intro ?_ ?_
   ·intro fL
    have hq:=qt fL
    refine ⟨fun _=>wB,fun _=>cy,fun _=>cz,fun _=>z3,fun _=>wC,?_⟩
    refine ⟨id,fun _=>cf,fun _=>cg,id,fun _=>z9,id,fun _ h=>aA h,?_⟩
    refine And.intro ?_ ?_
    ·intro h; exact absurd ((qt h).2.symm.trans hq.2) (by decide)
    intro _
    rw [lL hq]
    exact ⟨rf,tv⟩
   intro fL
   refine ⟨id,fun _=>cf,fun _=>cg,id,fun _=>z9,id,fun _ h=>aA h,?_⟩
   refine And.intro ?_ ?_
   ·intro jo
    have hq:=qt jo
    skip
    refine ⟨fun _=>⟨Int.le_refl 0,by simp⟩,de ⟨ah (k.tdiv 6+1+k.tmod 6),ah k,1,1+(aL.tdiv 6).tmod 9⟩,fun _=>rfl,?_⟩
    refine ⟨fun _=>cy,fun _=>cz,fun _=>z2,fun _=>wD,fun _=>⟨by show _≤ah (k.tdiv 6+1+k.tmod 6) - (aL.tdiv 540).tmod 2 * 1073741825; omega,by show ah (k.tdiv 6+1+k.tmod 6) - (aL.tdiv 540).tmod 2 * 1073741825≤_; omega⟩,?_⟩
    refine ⟨fun _=>⟨Int.le_refl 0,by simp⟩,[I (ah (k.tdiv 6+1+k.tmod 6) - (aL.tdiv 540).tmod 2 * 1073741825)],⟨rf,tv⟩,de ⟨ah (k.tdiv 6+1+k.tmod 6),ah k,1,1+(aL.tdiv 6).tmod 9⟩,rfl,?_⟩
    refine ⟨by kernel_rfl,?_⟩
    rw [lM hq]
    exact ⟨rf,tv⟩
   intro jo
   rw [lN (qf ie) (qf ik) (qf fL) (qf jo)]
   exact ⟨rf,tv⟩
  ·intro oS
   have oS:¬ (aL.tdiv 54).tmod 2=1:=by simpa using oS
   have hB:dE k aL=(2,[⟨ah k,ah (k.tdiv 6+1+k.tmod 6),((k.tdiv 252).tmod 4).tdiv 2 * 2,1+(k.tdiv 36).tmod 7⟩,⟨ah (k.tdiv 6+1+k.tmod 6),ah k,1,1+(aL.tdiv 6).tmod 9⟩]):=by unfold dE; simp only; rw [if_neg (by omega),if_pos (by omega),if_neg rF,if_neg oS]
   unfold jI; rw [hB]
   refine ⟨id,fun _=>cf,fun _=>cg,id,fun _=>z9,id,fun _ h=>aA h,?_⟩
   refine And.intro ?_ ?_
   ·intro ie
    have hq:=qt ie
    refine ⟨fun _=>cy,fun _=>cz,fun _=>z3,fun _=>s0,?_⟩
    refine ⟨fun _=>⟨Int.le_refl 0,by simp⟩,[I ((aL.tdiv 540).tmod 3 - 1)],⟨rf,tv⟩,de ⟨ah k,ah (k.tdiv 6+1+k.tmod 6),((k.tdiv 252).tmod 4).tdiv 2 * 2,1+(k.tdiv 36).tmod 7⟩,rfl,?_⟩
    refine ⟨id,fun _=>cf,fun _=>cg,id,fun _=>z9,id,fun _ h=>aA h,?_⟩
    refine And.intro ?_ ?_
    ·intro h; exact absurd ((qt h).2.symm.trans hq.2) (by decide)
    intro _
    refine ⟨id,fun _=>cf,fun _=>cg,id,fun _=>z9,id,fun _ h=>aA h,?_⟩
    refine And.intro ?_ ?_
    ·intro h; exact absurd ((qt h).2.symm.trans hq.2) (by decide)
    intro _
    refine ⟨id,fun _=>cf,fun _=>cg,id,fun _=>z9,id,fun _ h=>aA h,?_⟩
    refine And.intro ?_ ?_
    ·intro h; exact absurd ((qt h).2.symm.trans hq.2) (by decide)
    intro _
    rw [lJ hq]
    exact ⟨rf,tv⟩
   intro ie
   refine ⟨id,fun _=>cf,fun _=>cg,id,fun _=>z9,id,fun _ h=>aA h,?_⟩
   refine And.intro ?_ ?_
   ·intro ik
    have hq:=qt ik
    refine ⟨fun _=>cy,fun _=>cz,fun _=>z2,fun _=>wz,fun _=>wA,?_⟩
    refine ⟨fun _=>⟨Int.le_refl 0,by simp⟩,[I (4 - (aL.tdiv 540).tmod 2 * 5)],⟨rf,tv⟩,de ⟨ah k,ah (k.tdiv 6+1+k.tmod 6),((k.tdiv 252).tmod 4).tdiv 2 * 2,1+(k.tdiv 36).tmod 7⟩,rfl,?_⟩
    refine ⟨id,fun _=>cf,fun _=>cg,id,fun _=>z9,id,fun _ h=>aA h,?_⟩
    refine And.intro ?_ ?_
    ·intro h; exact absurd ((qt h).2.symm.trans hq.2) (by decide)
    intro _
    refine ⟨id,fun _=>cf,fun _=>cg,id,fun _=>z9,id,fun _ h=>aA h,?_⟩
    refine And.intro ?_ ?_
    ·intro h; exact absurd ((qt h).2.symm.trans hq.2) (by decide)
    intro _
    rw [lK hq]
    exact ⟨rf,tv⟩
   intro ik
   refine ⟨id,fun _=>cf,fun _=>cg,id,fun _=>z9,id,fun _ h=>aA h,?_⟩
   refine And.intro ?_ ?_
   ·intro fL
    have hq:=qt fL
    refine ⟨fun _=>wB,fun _=>cy,fun _=>cz,fun _=>z3,fun _=>wC,?_⟩
    refine ⟨id,fun _=>cf,fun _=>cg,id,fun _=>z9,id,fun _ h=>aA h,?_⟩
    refine And.intro ?_ ?_
    ·intro h; exact absurd ((qt h).2.symm.trans hq.2) (by decide)
    intro _
    rw [lL hq]
    exact ⟨rf,tv⟩
   intro fL
   refine ⟨id,fun _=>cf,fun _=>cg,id,fun _=>z9,id,fun _ h=>aA h,?_⟩
   refine And.intro ?_ ?_
   ·intro jo
    have hq:=qt jo
    skip
    refine ⟨fun _=>⟨Int.le_refl 0,by simp⟩,de ⟨ah k,ah (k.tdiv 6+1+k.tmod 6),((k.tdiv 252).tmod 4).tdiv 2 * 2,1+(k.tdiv 36).tmod 7⟩,fun _=>rfl,?_⟩
    refine ⟨fun _=>cy,fun _=>cz,fun _=>z2,fun _=>wD,fun _=>⟨by show _≤ah k - (aL.tdiv 540).tmod 2 * 1073741825; omega,by show ah k - (aL.tdiv 540).tmod 2 * 1073741825≤_; omega⟩,?_⟩
    refine ⟨fun _=>⟨Int.le_refl 0,by simp⟩,[I (ah k - (aL.tdiv 540).tmod 2 * 1073741825)],⟨rf,tv⟩,de ⟨ah k,ah (k.tdiv 6+1+k.tmod 6),((k.tdiv 252).tmod 4).tdiv 2 * 2,1+(k.tdiv 36).tmod 7⟩,rfl,?_⟩
    refine ⟨by kernel_rfl,?_⟩
    rw [lM hq]
    exact ⟨rf,tv⟩
   intro jo
   rw [lN (qf ie) (qf ik) (qf fL) (qf jo)]
   exact ⟨rf,tv⟩
end Go.Proofs.YtpbdohkbiklflaaGreatDoor
