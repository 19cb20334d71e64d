import Derived.Test.YtpbdohkbiklflaaGreatDoorFM29
import Derived.Test.YtpbdohkbiklflaaGreatDoorFM30
import Derived.Test.YtpbdohkbiklflaaGreatDoorFM31
import Derived.Test.YtpbdohkbiklflaaGreatDoorFM21
import Derived.Test.YtpbdohkbiklflaaGreatDoorFM24
set_option linter.unusedVariables false
set_option linter.unusedSimpArgs false
set_option linter.unusedSectionVars false
namespace Go.Proofs.YtpbdohkbiklflaaGreatDoor
open Go.TM
variable [de]
set_option maxRecDepth 100000
theorem Tp (h g:Bool) (X:Vs):NG 3 0 1 (xm false h g X) (xm true h g X):=⟨_,rfl,rfl,fun j hj=>match j,hj with
 | 0,_=>.cells (.same _ (.same _ (.same _ (.same _ (.same _ (.same _ (.same _ (.same _ (.To (nH.refl _ _ _ _))))))))))
 | 1,_=>.refl _
 | 2,_=>.refl _
 | 3,hj=>absurd rfl hj
 | 4,_=>.refl _
 | 5,_=>.refl _
 | _+6,_=>(C8.refl ao.none:C8 3 0 1 ao.none ao.none)⟩
theorem Tq (f g:Bool) (X:Vs):NG 4 0 1 (xm f false g X) (xm f true g X):=⟨_,rfl,rfl,fun j hj=>match j,hj with
 | 0,_=>.cells (.same _ (.same _ (.same _ (.same _ (.same _ (.same _ (.same _ (.same _ (.same _ (.To (nH.refl _ _ _ _)))))))))))
 | 1,_=>.refl _
 | 2,_=>.refl _
 | 3,_=>.refl _
 | 4,hj=>absurd rfl hj
 | 5,_=>.refl _
 | _+6,_=>(C8.refl ao.none:C8 4 0 1 ao.none ao.none)⟩
theorem wU {s:Vs} {S:SS} {L N:Nat} (h:Lq s S L N) (hL:L+8≤500) (hN:N≤99) (st:St) (hm:st.mv.length≤4) :
  match eS s S st with
  | .err e=>bn Tryz.prog 21 [.ptr 0 0,AE st] 6 (vK false s) 9 [.dv (I e)] (vK false s)
  | .ok A=>bn Tryz.prog 21 [.ptr 0 0,AE st] 6 (vK false s) 9 [.dv (I 0)] (xm true true true (cM s S st (aJ s A))):=by
 have hw:=ss h hL hN st hm
 cases hq:eS s S st with
 | err e=>rw [hq] at hw; exact hw
 | ok A =>
  rw [hq] at hw
  simp only at hw ⊢
  have h1:bn Tryz.prog 21 [.ptr 0 0,AE st] 6 (vK false s) 9 [.dv (I 0)] (xm true (Fi s S st) true (cM s S st (aJ s A))):=by
   cases hf:fF s A with
   | true=>rw [hf] at hw; exact hw
   | false=>rw [hf] at hw; exact wT hw (by omega) (.inl ⟨rfl,rfl⟩) (Tp _ _ _)
  cases hf:Fi s S st with
  | true=>rw [hf] at h1; exact h1
  | false=>rw [hf] at h1; exact wT h1 (by omega) (.inl ⟨rfl,rfl⟩) (Tq _ _ _)
theorem Fv (coin ab aC:Int) (h:Lr coin=false) (h2:Fp ab aC=false):bn Tryz.prog 12 [tI (wj dF),.dv (I coin),.dv (I ab),.dv (I aC)] 0 [] 2 [.ptr 1 0,.dv (I 0)] [(1,.cells (jR [I 4,I coin,I ab,I aC,jJ [],I 0]))]:=by
 refine bl aG mixed (aq _) (ar _) Tryz.func12 rfl rfl (by kernel_rfl) ?_
 refine .inl ⟨_,fun _=>CZ.ok,?_⟩
 refine ⟨fun h9=>by simp at h9,fun _=>?_⟩
 repeat first | refine ⟨id,?_⟩ | refine ⟨fun _ h=>cf h,?_⟩ | refine ⟨fun _ h=>ax h,?_⟩ | refine ⟨fun h=>⟨h,fun h2=>aQ h h2⟩,?_⟩ | refine ⟨fun h=>⟨h,fun h2=>aD h h2⟩,?_⟩
 obtain ⟨nm,PN⟩:=Ls dF coin
 refine ⟨_,PN,?_⟩
 repeat first | refine ⟨id,?_⟩ | refine ⟨fun _ h=>cf h,?_⟩ | refine ⟨fun _ h=>ax h,?_⟩ | refine ⟨fun h=>⟨h,fun h2=>aQ h h2⟩,?_⟩ | refine ⟨fun h=>⟨h,fun h2=>aD h h2⟩,?_⟩
 refine ⟨fun hc=>?_,fun _=>?_⟩
 ·have:Lr coin=true:=hc
  rw [h] at this; cases this
 repeat first | refine ⟨id,?_⟩ | refine ⟨fun _ h=>cf h,?_⟩ | refine ⟨fun _ h=>ax h,?_⟩ | refine ⟨fun h=>⟨h,fun h2=>aQ h h2⟩,?_⟩ | refine ⟨fun h=>⟨h,fun h2=>aD h h2⟩,?_⟩
 refine ⟨fun hc=>?_,fun _=>?_⟩
 ·have:Fp ab aC=true:=hc
  rw [h2] at this; cases this
 exact ⟨_,_,⟨rfl,rfl⟩,by kernel_rfl,⟨rfl,rf,tv⟩,⟨rf,rf,rf,rf,od _,rf,tv⟩,tv⟩
def VY (coin ab aC:Int):RV:=⟨coin,ab,aC,[],0⟩
theorem wV (coin ab aC:Int) (h:Lr coin=false) (h2:Fp ab aC=false):bn Tryz.prog 12 [tI (wj dF),.dv (I coin),.dv (I ab),.dv (I aC)] 0 [] 2 [.own 1 0 0 [],.dv (I 0)] [(1,.tree 0 0 (.cN (OT (VY coin ab aC))))] :=
 Db (Fv coin ab aC h h2)
end Go.Proofs.YtpbdohkbiklflaaGreatDoor
namespace Go.Proofs.YtpbdohkbiklflaaGreatDoor
open Go.TM
def lV (n m:Int):Int:=(if n<0 then -(n+1) else n).tmod m
theorem sA (n m:Int) (hm:1≤m):0≤lV n m∧lV n m<m:=by
 unfold lV
 refine ⟨Int.tmod_nonneg _ (by split <;> omega),Int.tmod_lt_of_pos _ (by omega)⟩
def bu (l:List Int) (i m:Int):Int:=if i<0 ∨ (l.length:Int)≤i then 0 else lV (l.getD i.toNat 0) m
variable [de]
theorem nI (n m:Int) (hn:Bg n) (hm:1≤m) (Xe:m≤1000000000000):ct Tryz.prog 10 [I n,I m] [I (lV n m)]:=by
 refine bp aG mixed (aq _) (ar _) Tryz.func10 rfl (by kernel_rfl) rfl ?_
 unfold Bg at hn
 refine ⟨fun h=>?_,fun h=>?_⟩
 ·have h':n<0:=of_decide_eq_true h
  refine ⟨fun _=>⟨by omega,by omega⟩,fun _=>⟨by omega,by omega⟩,fun _=>by omega,?_⟩
  exact ⟨az (by rw [lV,if_pos h',Int.zero_sub]),tv⟩
 ·have h':¬ n<0:=of_decide_eq_false h
  refine ⟨fun _=>by omega,?_⟩
  exact ⟨az (by rw [lV,if_neg h']),tv⟩
theorem cA (l:List Int) (i m:Int) (hl:∀x∈l,Bg x) (hm:1≤m) (Xe:m≤1000000000000):ct Tryz.prog 42 [eY l,I i,I m] [I (bu l i m)]:=by
 refine bp aG mixed (aq _) (ar _) Tryz.func42 rfl (by kernel_rfl) rfl ?_
 repeat first | refine ⟨id,?_⟩ | refine ⟨fun _ h=>cf h,?_⟩ | refine ⟨fun _ h=>ax h,?_⟩ | refine ⟨fun h=>⟨h,fun h2=>aQ h h2⟩,?_⟩ | refine ⟨fun h=>⟨h,fun h2=>aD h h2⟩,?_⟩
 refine ⟨fun h=>?_,fun h=>?_⟩
 ·have h':i<0 ∨ (l.length:Int)≤i:=by
   rw [List.length_map] at h
   simpa using h
  exact ⟨az (by rw [bu,if_pos h']),tv⟩
 ·have h':¬ (i<0 ∨ (l.length:Int)≤i):=by
   rw [List.length_map] at h
   simp at h; omega
  have hg:l[i.toNat]?=some (l.getD i.toNat 0):=by rw [List.getD_eq_getElem?_getD,List.getElem?_eq_getElem (show i.toNat<l.length by omega)]; rfl
  refine ⟨I (l.getD i.toNat 0),fun _=>⟨by omega,by rw [List.getElem?_map,hg]; rfl⟩,?_⟩
  refine .inl ⟨_,fun _=>(nI _ m (hl _ (List.mem_of_getElem? hg)) hm Xe).ok,?_⟩
  exact ⟨az (by rw [bu,if_neg h']),tv⟩
end Go.Proofs.YtpbdohkbiklflaaGreatDoor
namespace Go.Proofs.YtpbdohkbiklflaaGreatDoor
open Go.TM
variable [de]
set_option maxRecDepth 100000
theorem cY (l:List Int) (i m:Int) (hm:1≤m):0≤bu l i m∧bu l i m<m:=by
 unfold bu; split
 ·omega
 ·exact sA _ m hm
def Fw:List Int:=[1,2,3,4,1048577,9]
theorem Dc (k:Int) (hk:0≤k):Fw[(k.tmod 6).toNat]?=some (ai k):=by
 have h1:=Int.tmod_nonneg 6 hk
 have h2:=Int.tmod_lt_of_pos k (show (0:Int)<6 by omega)
 unfold ai
 rw [List.getD_eq_getElem?_getD]
 show Fw[(k.tmod 6).toNat]?=some (Fw[(k.tmod 6).toNat]?.getD 0)
 have h3:(k.tmod 6).toNat<Fw.length:=by show _<6; omega
 rw [List.getElem?_eq_getElem h3]; rfl
theorem Hf (k:Int) (hk:0≤k):1≤ai k∧ai k≤1048577:=by
 have:=List.mem_of_getElem? (Dc k hk)
 simp only [Fw,List.mem_cons,List.not_mem_nil,or_false] at this
 omega
theorem bz (k:Int) (hk:0≤k):ct Tryz.prog 43 [I k] [I (ai k)]:=by
 refine bp aG mixed (aq _) (ar _) Tryz.func43 rfl (by kernel_rfl) rfl ?_
 refine .inl ⟨Fw.map I,rfl,⟨rf,rf,rf,rf,rf,rf,tv⟩,(by simp [Fw]; exact ⟨rfl,rfl,rfl,rfl,rfl,rfl⟩),?_⟩
 have h1:=Int.tmod_nonneg 6 hk
 refine ⟨fun _ h=>by omega,?_⟩
 refine ⟨I (ai k),fun _=>⟨h1,by rw [List.getElem?_map,Dc k hk]; rfl⟩,?_⟩
 exact ⟨rf,tv⟩
def Fx (f:Mv→Mv):List Mv→List Mv
 | []=>[]
 | m::r=>f m::r
def dN (k aR:Int):Int × List Mv :=
 let a:=ai k
 let b:=ai (k.tdiv 6+1+k.tmod 6)
 let n:=1+(k.tdiv 36).tmod 7
 let item:=(k.tdiv 252).tmod 4
 if aR.tmod 6=0 ∨ aR.tmod 6=1 then (0,[⟨0,a,item,3 * n⟩,⟨0,b,1,5 * n⟩]) else
 if aR.tmod 6=2 ∨ aR.tmod 6=3 then
  let b1:=if a=b then a+1 else b
  let x:Mv:=⟨a,b1,item.tdiv 2 * 2,n⟩
  let y:Mv:=⟨b1,a,1,1+(aR.tdiv 6).tmod 9⟩
  (2,if (aR.tdiv 54).tmod 2=1 then [y,x] else [x,y]) else
 if aR.tmod 6=4 then ((aR.tdiv 6).tmod 11,[⟨a,0,item,n⟩]) else
 (2,[⟨0,a,item,n⟩,⟨a,3 * a,item,n⟩,⟨3 * a,a,item,1⟩])
def wW (bad:Bool) (aR tick:Int) (s:St):St :=
 if bad=true∧(aR.tdiv 60).tmod 9=0 then { s with mv:=Fx (fun m=>{ m with n:=(aR.tdiv 540).tmod 3 - 1 }) s.mv } else
 if bad=true∧(aR.tdiv 60).tmod 9=1 then { s with mv:=Fx (fun m=>{ m with it:=4 - (aR.tdiv 540).tmod 2 * 5 }) s.mv } else
 if bad=true∧(aR.tdiv 60).tmod 9=2 then { s with tick:=tick - 1 - (aR.tdiv 540).tmod 3 } else
 if bad=true∧(aR.tdiv 60).tmod 9=3 then { s with mv:=Fx (fun m=>{ m with t:=m.f - (aR.tdiv 540).tmod 2 * 1073741825 }) s.mv } else s
def j6 (k aR tick:Int) (bad:Bool):St:=wW bad aR tick ⟨0,(dN k aR).1,ai k,tick+(k.tdiv 1008).tmod 4,-1,0,(dN k aR).2⟩
def fp (l:List Int) (at' tick:Int) (bad:Bool):St:=j6 (bu l at' 1000000) (bu l (at'+1) 1000000) tick bad
theorem qt {bad:Bool} {q z:Int} (h:(bif bad then q == z else false)=true):bad=true∧q=z:=by
 obtain ⟨h1,h2⟩:=yG h; exact ⟨h1,by simpa using h2⟩
theorem qf {bad:Bool} {q z:Int} (h:(bif bad then q == z else false)=false):¬ (bad=true∧q=z):=fun h9=>yH h ⟨h9.1,by simpa using h9.2⟩
theorem mg {bad:Bool} {aR tick:Int} {s:St} (h:bad=true∧(aR.tdiv 60).tmod 9=0):wW bad aR tick s={ s with mv:=Fx (fun m=>{ m with n:=(aR.tdiv 540).tmod 3 - 1 }) s.mv }:=if_pos h
theorem mi {bad:Bool} {aR tick:Int} {s:St} (h:bad=true∧(aR.tdiv 60).tmod 9=1):wW bad aR tick s={ s with mv:=Fx (fun m=>{ m with it:=4 - (aR.tdiv 540).tmod 2 * 5 }) s.mv }:=by
 unfold wW; rw [if_neg (fun h9=>absurd (h9.2.symm.trans h.2) (by decide)),if_pos h]
theorem mj {bad:Bool} {aR tick:Int} {s:St} (h:bad=true∧(aR.tdiv 60).tmod 9=2):wW bad aR tick s={ s with tick:=tick - 1 - (aR.tdiv 540).tmod 3 }:=by
 unfold wW; rw [if_neg (fun h9=>absurd (h9.2.symm.trans h.2) (by decide)),if_neg (fun h9=>absurd (h9.2.symm.trans h.2) (by decide)),if_pos h]
theorem mn {bad:Bool} {aR tick:Int} {s:St} (h:bad=true∧(aR.tdiv 60).tmod 9=3):wW bad aR tick s={ s with mv:=Fx (fun m=>{ m with t:=m.f - (aR.tdiv 540).tmod 2 * 1073741825 }) s.mv }:=by
 unfold wW; rw [if_neg (fun h9=>absurd (h9.2.symm.trans h.2) (by decide)),if_neg (fun h9=>absurd (h9.2.symm.trans h.2) (by decide)),if_neg (fun h9=>absurd (h9.2.symm.trans h.2) (by decide)),if_pos h]
theorem mo {bad:Bool} {aR tick:Int} {s:St} (h0:¬ (bad=true∧(aR.tdiv 60).tmod 9=0)) (h1:¬ (bad=true∧(aR.tdiv 60).tmod 9=1)) (h2:¬ (bad=true∧(aR.tdiv 60).tmod 9=2)) (h3:¬ (bad=true∧(aR.tdiv 60).tmod 9=3)):wW bad aR tick s=s:=by
 unfold wW; rw [if_neg h0,if_neg h1,if_neg h2,if_neg h3]
theorem sB {x z:Int} (h:(x == z)=true):x=z:=by simpa using h
theorem pU {x z:Int} (h:(x == z)=false):¬ x=z:=by simpa using h
theorem tw {k aR tick:Int} (k0:0≤k) (k1:k<1000000) (w0:0≤aR) (w1:aR<1000000) (ht:0≤tick∧tick≤1099511627776):0≤k.tdiv 6∧0≤k.tdiv 36∧0≤k.tdiv 252∧0≤k.tdiv 1008∧k.tdiv 6≤k∧k.tdiv 36≤k∧k.tdiv 252≤k∧k.tdiv 1008≤k∧0≤k.tmod 6∧k.tmod 6<6∧0≤(k.tdiv 36).tmod 7∧(k.tdiv 36).tmod 7<7∧0≤(k.tdiv 252).tmod 4∧(k.tdiv 252).tmod 4<4∧0≤(k.tdiv 1008).tmod 4∧(k.tdiv 1008).tmod 4<4∧0≤aR.tdiv 6∧0≤aR.tdiv 54∧0≤aR.tdiv 60∧0≤aR.tdiv 540∧aR.tdiv 6≤aR∧aR.tdiv 54≤aR∧aR.tdiv 60≤aR∧aR.tdiv 540≤aR∧0≤(aR.tdiv 6).tmod 9∧(aR.tdiv 6).tmod 9<9∧0≤(aR.tdiv 6).tmod 11∧(aR.tdiv 6).tmod 11<11∧0≤(aR.tdiv 540).tmod 3∧(aR.tdiv 540).tmod 3<3∧0≤(aR.tdiv 540).tmod 2∧(aR.tdiv 540).tmod 2<2∧0≤((k.tdiv 252).tmod 4).tdiv 2∧((k.tdiv 252).tmod 4).tdiv 2≤(k.tdiv 252).tmod 4∧(1≤ai k∧ai k≤1048577)∧(1≤ai (k.tdiv 6+1+k.tmod 6)∧ai (k.tdiv 6+1+k.tmod 6)≤1048577)∧((60:Int)=0→False)∧((540:Int)=0→False)∧((54:Int)=0→False)∧((9:Int)=0→False)∧((6:Int)=0→False)∧((11:Int)=0→False)∧((3:Int)=0→False)∧((2:Int)=0→False)∧(-9223372036854775808≤aR.tdiv 60∧aR.tdiv 60≤9223372036854775807)∧(-9223372036854775808≤aR.tdiv 540∧aR.tdiv 540≤9223372036854775807)∧(-9223372036854775808≤aR.tdiv 54∧aR.tdiv 54≤9223372036854775807)∧(-9223372036854775808≤aR.tdiv 6∧aR.tdiv 6≤9223372036854775807)∧(-9223372036854775808≤(aR.tdiv 540).tmod 3 - 1∧(aR.tdiv 540).tmod 3 - 1≤9223372036854775807)∧(-9223372036854775808≤(aR.tdiv 540).tmod 2 * 5∧(aR.tdiv 540).tmod 2 * 5≤9223372036854775807)∧(-9223372036854775808≤4 - (aR.tdiv 540).tmod 2 * 5∧4 - (aR.tdiv 540).tmod 2 * 5≤9223372036854775807)∧(-9223372036854775808≤tick - 1∧tick - 1≤9223372036854775807)∧(-9223372036854775808≤tick - 1 - (aR.tdiv 540).tmod 3∧tick - 1 - (aR.tdiv 540).tmod 3≤9223372036854775807)∧(-9223372036854775808≤(aR.tdiv 540).tmod 2 * 1073741825∧(aR.tdiv 540).tmod 2 * 1073741825≤9223372036854775807)∧(-9223372036854775808≤3 * (1+(k.tdiv 36).tmod 7)∧3 * (1+(k.tdiv 36).tmod 7)≤9223372036854775807)∧(-9223372036854775808≤5 * (1+(k.tdiv 36).tmod 7)∧5 * (1+(k.tdiv 36).tmod 7)≤9223372036854775807)∧(-9223372036854775808≤ai k+1∧ai k+1≤9223372036854775807)∧(-9223372036854775808≤((k.tdiv 252).tmod 4).tdiv 2∧((k.tdiv 252).tmod 4).tdiv 2≤9223372036854775807)∧(-9223372036854775808≤((k.tdiv 252).tmod 4).tdiv 2 * 2∧((k.tdiv 252).tmod 4).tdiv 2 * 2≤9223372036854775807)∧(-9223372036854775808≤1+(aR.tdiv 6).tmod 9∧1+(aR.tdiv 6).tmod 9≤9223372036854775807)∧(-9223372036854775808≤3 * ai k∧3 * ai k≤9223372036854775807):=by
 have d6:=Int.tdiv_nonneg k0 (show (0:Int)≤6 by omega)
 have d36:=Int.tdiv_nonneg k0 (show (0:Int)≤36 by omega)
 have mB:=Int.tdiv_nonneg k0 (show (0:Int)≤252 by omega)
 have gM:=Int.tdiv_nonneg k0 (show (0:Int)≤1008 by omega)
 have e6:=Int.tdiv_le_self (a:=k) 6 k0
 have Dd:=Int.tdiv_le_self (a:=k) 36 k0
 have nJ:=Int.tdiv_le_self (a:=k) 252 k0
 have ir:=Int.tdiv_le_self (a:=k) 1008 k0
 have m6:=Int.tmod_nonneg 6 k0
 have NI:=Int.tmod_lt_of_pos k (show (0:Int)<6 by omega)
 have m7:=Int.tmod_nonneg 7 d36
 have NJ:=Int.tmod_lt_of_pos (k.tdiv 36) (show (0:Int)<7 by omega)
 have m4:=Int.tmod_nonneg 4 mB
 have NK:=Int.tmod_lt_of_pos (k.tdiv 252) (show (0:Int)<4 by omega)
 have n4:=Int.tmod_nonneg 4 gM
 have NL:=Int.tmod_lt_of_pos (k.tdiv 1008) (show (0:Int)<4 by omega)
 have f6:=Int.tdiv_nonneg w0 (show (0:Int)≤6 by omega)
 have f54:=Int.tdiv_nonneg w0 (show (0:Int)≤54 by omega)
 have f60:=Int.tdiv_nonneg w0 (show (0:Int)≤60 by omega)
 have lW:=Int.tdiv_nonneg w0 (show (0:Int)≤540 by omega)
 have g6:=Int.tdiv_le_self (a:=aR) 6 w0
 have De:=Int.tdiv_le_self (a:=aR) 54 w0
 have Df:=Int.tdiv_le_self (a:=aR) 60 w0
 have nL:=Int.tdiv_le_self (a:=aR) 540 w0
 have h9:=Int.tmod_nonneg 9 f6
 have NM:=Int.tmod_lt_of_pos (aR.tdiv 6) (show (0:Int)<9 by omega)
 have Cr:=Int.tmod_nonneg 11 f6
 have AZ:=Int.tmod_lt_of_pos (aR.tdiv 6) (show (0:Int)<11 by omega)
 have h3:=Int.tmod_nonneg 3 lW
 have Ja:=Int.tmod_lt_of_pos (aR.tdiv 540) (show (0:Int)<3 by omega)
 have h2:=Int.tmod_nonneg 2 lW
 have DL:=Int.tmod_lt_of_pos (aR.tdiv 540) (show (0:Int)<2 by omega)
 have i2:=Int.tdiv_nonneg m4 (show (0:Int)≤2 by omega)
 have NN:=Int.tdiv_le_self (a:=(k.tdiv 252).tmod 4) 2 m4
 have ba:=Hf k k0
 have bb:=Hf (k.tdiv 6+1+k.tmod 6) (by omega)
 have cq:(60:Int)=0→False:=by decide
 have cH:(540:Int)=0→False:=by decide
 have NO:(54:Int)=0→False:=by decide
 have z9:(9:Int)=0→False:=by decide
 have z6:(6:Int)=0→False:=by decide
 have NP:(11:Int)=0→False:=by decide
 have z3:(3:Int)=0→False:=by decide
 have z2:(2:Int)=0→False:=by decide
 have cr:-9223372036854775808≤aR.tdiv 60∧aR.tdiv 60≤9223372036854775807:=by omega
 have cI:-9223372036854775808≤aR.tdiv 540∧aR.tdiv 540≤9223372036854775807:=by omega
 have NQ:-9223372036854775808≤aR.tdiv 54∧aR.tdiv 54≤9223372036854775807:=by omega
 have o6:-9223372036854775808≤aR.tdiv 6∧aR.tdiv 6≤9223372036854775807:=by omega
 have s0:-9223372036854775808≤(aR.tdiv 540).tmod 3 - 1∧(aR.tdiv 540).tmod 3 - 1≤9223372036854775807:=by omega
 have xR:-9223372036854775808≤(aR.tdiv 540).tmod 2 * 5∧(aR.tdiv 540).tmod 2 * 5≤9223372036854775807:=by omega
 have xS:-9223372036854775808≤4 - (aR.tdiv 540).tmod 2 * 5∧4 - (aR.tdiv 540).tmod 2 * 5≤9223372036854775807:=by omega
 have xT:-9223372036854775808≤tick - 1∧tick - 1≤9223372036854775807:=by omega
 have xU:-9223372036854775808≤tick - 1 - (aR.tdiv 540).tmod 3∧tick - 1 - (aR.tdiv 540).tmod 3≤9223372036854775807:=by omega
 have xV:-9223372036854775808≤(aR.tdiv 540).tmod 2 * 1073741825∧(aR.tdiv 540).tmod 2 * 1073741825≤9223372036854775807:=by omega
 have b3:-9223372036854775808≤3 * (1+(k.tdiv 36).tmod 7)∧3 * (1+(k.tdiv 36).tmod 7)≤9223372036854775807:=by omega
 have b5:-9223372036854775808≤5 * (1+(k.tdiv 36).tmod 7)∧5 * (1+(k.tdiv 36).tmod 7)≤9223372036854775807:=by omega
 have NR:-9223372036854775808≤ai k+1∧ai k+1≤9223372036854775807:=by omega
 have NS:-9223372036854775808≤((k.tdiv 252).tmod 4).tdiv 2∧((k.tdiv 252).tmod 4).tdiv 2≤9223372036854775807:=by omega
 have NT:-9223372036854775808≤((k.tdiv 252).tmod 4).tdiv 2 * 2∧((k.tdiv 252).tmod 4).tdiv 2 * 2≤9223372036854775807:=by omega
 have b9:-9223372036854775808≤1+(aR.tdiv 6).tmod 9∧1+(aR.tdiv 6).tmod 9≤9223372036854775807:=by omega
 have NU:-9223372036854775808≤3 * ai k∧3 * ai k≤9223372036854775807:=by omega
 exact ⟨d6,d36,mB,gM,e6,Dd,nJ,ir,m6,NI,m7,NJ,m4,NK,n4,NL,f6,f54,f60,lW,g6,De,Df,nL,h9,NM,Cr,AZ,h3,Ja,h2,DL,i2,NN,ba,bb,cq,cH,NO,z9,z6,NP,z3,z2,cr,cI,NQ,o6,s0,xR,xS,xT,xU,xV,b3,b5,NR,NS,NT,b9,NU⟩
end Go.Proofs.YtpbdohkbiklflaaGreatDoor
namespace Go.Proofs.YtpbdohkbiklflaaGreatDoor
open Go.TM
variable [de]
set_option maxRecDepth 100000
set_option maxHeartbeats 4000000 in
theorem NV (l:List Int) (hl:∀x∈l,Bg x) (at' tick:Int) (bad:Bool) (ha:0≤at'∧at'≤1000000) (ht:0≤tick∧tick≤1099511627776) (hc:(bu l (at'+1) 1000000).tmod 6=0):ct Tryz.prog 19 [eY l,I at',I tick,B bad] [gL (fp l at' tick bad)]:=by
 refine bp aG mixed (aq _) (ar _) Tryz.func19 rfl (by kernel_rfl) rfl ?_
 have Cj:=cA l at' 1000000 hl (by omega) (by omega)
 have pN:=cA l (at'+1) 1000000 hl (by omega) (by omega)
 obtain ⟨k0,k1⟩:=cY l at' 1000000 (by omega)
 obtain ⟨w0,w1⟩:=cY l (at'+1) 1000000 (by omega)
 refine .inl ⟨_,fun _=>Cj.ok,?_⟩
 unfold fp
 generalize bu l at' 1000000=k at *
 generalize bu l (at'+1) 1000000=aR at *
 obtain ⟨d6,d36,mB,gM,e6,Dd,nJ,ir,m6,NI,m7,NJ,m4,NK,n4,NL,f6,f54,f60,lW,g6,De,Df,nL,h9,NM,Cr,AZ,h3,Ja,h2,DL,i2,NN,ba,bb,cq,cH,NO,z9,z6,NP,z3,z2,cr,cI,NQ,o6,s0,xR,xS,xT,xU,xV,b3,b5,NR,NS,NT,b9,NU⟩:=tw k0 k1 w0 w1 ht
 refine .inl ⟨_,fun _=>(bz k k0).ok,?_⟩
 repeat first | refine ⟨fun _=>⟨by omega,by omega⟩,?_⟩ | refine ⟨fun _ h=>by omega,?_⟩
 refine .inl ⟨_,fun _=>(bz (k.tdiv 6+1+k.tmod 6) (by omega)).ok,?_⟩
 repeat first | refine ⟨fun _=>⟨by omega,by omega⟩,?_⟩ | refine ⟨fun _ h=>by omega,?_⟩
 refine .inl ⟨_,fun _=>pN.ok,?_⟩
 repeat first | refine ⟨fun _=>⟨by omega,by omega⟩,?_⟩ | refine ⟨fun _ h=>by omega,?_⟩
 clear e6 Dd nJ ir g6 De Df nL d6 d36 mB gM f6 f54 f60 lW
 refine And.intro ?_ (fun h=>absurd hc (pU h))
 intro c0
 have c0:=sB c0
 refine And.intro ?_ (fun h=>absurd c0 (pU h))
 intro _
 have hB:dN k aR=(0,[⟨0,ai k,(k.tdiv 252).tmod 4,3 * (1+(k.tdiv 36).tmod 7)⟩,⟨0,ai (k.tdiv 6+1+k.tmod 6),1,5 * (1+(k.tdiv 36).tmod 7)⟩]):=by unfold dN; simp only; rw [if_pos (by omega)]
 repeat refine ⟨fun _=>by assumption,?_⟩
 refine Or.inr ?_
 refine Or.inl ?_
 refine ⟨[cD ⟨0,ai k,(k.tdiv 252).tmod 4,3 * (1+(k.tdiv 36).tmod 7)⟩,cD ⟨0,ai (k.tdiv 6+1+k.tmod 6),1,5 * (1+(k.tdiv 36).tmod 7)⟩],rfl,⟨rf,rf,rf,rf,rf,rf,rf,rf,rf,rf,tv⟩,(by simp; exact ⟨rfl,rfl⟩),?_⟩
 unfold j6; rw [hB]
 refine ⟨id,fun _=>cq,fun _=>cr,id,fun _=>z9,id,fun _ h=>ax h,?_⟩
 refine And.intro ?_ ?_
 ·intro iF
  have hq:=qt iF
  refine ⟨fun _=>cH,fun _=>cI,fun _=>z3,fun _=>s0,?_⟩
  refine ⟨fun _=>⟨Int.le_refl 0,by simp⟩,[I ((aR.tdiv 540).tmod 3 - 1)],⟨rf,tv⟩,cD ⟨0,ai k,(k.tdiv 252).tmod 4,3 * (1+(k.tdiv 36).tmod 7)⟩,rfl,?_⟩
  refine ⟨id,fun _=>cq,fun _=>cr,id,fun _=>z9,id,fun _ h=>ax h,?_⟩
  refine And.intro ?_ ?_
  ·intro h; exact absurd ((qt h).2.symm.trans hq.2) (by decide)
  intro _
  refine ⟨id,fun _=>cq,fun _=>cr,id,fun _=>z9,id,fun _ h=>ax h,?_⟩
  refine And.intro ?_ ?_
  ·intro h; exact absurd ((qt h).2.symm.trans hq.2) (by decide)
  intro _
  refine ⟨id,fun _=>cq,fun _=>cr,id,fun _=>z9,id,fun _ h=>ax h,?_⟩
  refine And.intro ?_ ?_
  ·intro h; exact absurd ((qt h).2.symm.trans hq.2) (by decide)
  intro _
  rw [mg hq]
  exact ⟨rf,tv⟩
 intro iF
 refine ⟨id,fun _=>cq,fun _=>cr,id,fun _=>z9,id,fun _ h=>ax h,?_⟩
 refine And.intro ?_ ?_
 ·intro iM
  have hq:=qt iM
  refine ⟨fun _=>cH,fun _=>cI,fun _=>z2,fun _=>xR,fun _=>xS,?_⟩
  refine ⟨fun _=>⟨Int.le_refl 0,by simp⟩,[I (4 - (aR.tdiv 540).tmod 2 * 5)],⟨rf,tv⟩,cD ⟨0,ai k,(k.tdiv 252).tmod 4,3 * (1+(k.tdiv 36).tmod 7)⟩,rfl,?_⟩
  refine ⟨id,fun _=>cq,fun _=>cr,id,fun _=>z9,id,fun _ h=>ax h,?_⟩
  refine And.intro ?_ ?_
  ·intro h; exact absurd ((qt h).2.symm.trans hq.2) (by decide)
  intro _
  refine ⟨id,fun _=>cq,fun _=>cr,id,fun _=>z9,id,fun _ h=>ax h,?_⟩
  refine And.intro ?_ ?_
  ·intro h; exact absurd ((qt h).2.symm.trans hq.2) (by decide)
  intro _
  rw [mi hq]
  exact ⟨rf,tv⟩
 intro iM
 refine ⟨id,fun _=>cq,fun _=>cr,id,fun _=>z9,id,fun _ h=>ax h,?_⟩
 refine And.intro ?_ ?_
 ·intro gE
  have hq:=qt gE
  refine ⟨fun _=>xT,fun _=>cH,fun _=>cI,fun _=>z3,fun _=>xU,?_⟩
  refine ⟨id,fun _=>cq,fun _=>cr,id,fun _=>z9,id,fun _ h=>ax h,?_⟩
  refine And.intro ?_ ?_
  ·intro h; exact absurd ((qt h).2.symm.trans hq.2) (by decide)
  intro _
  rw [mj hq]
  exact ⟨rf,tv⟩
 intro gE
 refine ⟨id,fun _=>cq,fun _=>cr,id,fun _=>z9,id,fun _ h=>ax h,?_⟩
 refine And.intro ?_ ?_
 ·intro jP
  have hq:=qt jP
  skip
  refine ⟨fun _=>⟨Int.le_refl 0,by simp⟩,cD ⟨0,ai k,(k.tdiv 252).tmod 4,3 * (1+(k.tdiv 36).tmod 7)⟩,fun _=>rfl,?_⟩
  refine ⟨fun _=>cH,fun _=>cI,fun _=>z2,fun _=>xV,fun _=>⟨by show _≤0 - (aR.tdiv 540).tmod 2 * 1073741825; omega,by show 0 - (aR.tdiv 540).tmod 2 * 1073741825≤_; omega⟩,?_⟩
  refine ⟨fun _=>⟨Int.le_refl 0,by simp⟩,[I (0 - (aR.tdiv 540).tmod 2 * 1073741825)],⟨rf,tv⟩,cD ⟨0,ai k,(k.tdiv 252).tmod 4,3 * (1+(k.tdiv 36).tmod 7)⟩,rfl,?_⟩
  refine ⟨by kernel_rfl,?_⟩
  rw [mn hq]
  exact ⟨rf,tv⟩
 intro jP
 rw [mo (qf iF) (qf iM) (qf gE) (qf jP)]
 exact ⟨rf,tv⟩
set_option maxHeartbeats 4000000 in
theorem NW (l:List Int) (hl:∀x∈l,Bg x) (at' tick:Int) (bad:Bool) (ha:0≤at'∧at'≤1000000) (ht:0≤tick∧tick≤1099511627776) (hc:(bu l (at'+1) 1000000).tmod 6=1):ct Tryz.prog 19 [eY l,I at',I tick,B bad] [gL (fp l at' tick bad)]:=by
 refine bp aG mixed (aq _) (ar _) Tryz.func19 rfl (by kernel_rfl) rfl ?_
 have Cj:=cA l at' 1000000 hl (by omega) (by omega)
 have pN:=cA l (at'+1) 1000000 hl (by omega) (by omega)
 obtain ⟨k0,k1⟩:=cY l at' 1000000 (by omega)
 obtain ⟨w0,w1⟩:=cY l (at'+1) 1000000 (by omega)
 refine .inl ⟨_,fun _=>Cj.ok,?_⟩
 unfold fp
 generalize bu l at' 1000000=k at *
 generalize bu l (at'+1) 1000000=aR at *
 obtain ⟨d6,d36,mB,gM,e6,Dd,nJ,ir,m6,NI,m7,NJ,m4,NK,n4,NL,f6,f54,f60,lW,g6,De,Df,nL,h9,NM,Cr,AZ,h3,Ja,h2,DL,i2,NN,ba,bb,cq,cH,NO,z9,z6,NP,z3,z2,cr,cI,NQ,o6,s0,xR,xS,xT,xU,xV,b3,b5,NR,NS,NT,b9,NU⟩:=tw k0 k1 w0 w1 ht
 refine .inl ⟨_,fun _=>(bz k k0).ok,?_⟩
 repeat first | refine ⟨fun _=>⟨by omega,by omega⟩,?_⟩ | refine ⟨fun _ h=>by omega,?_⟩
 refine .inl ⟨_,fun _=>(bz (k.tdiv 6+1+k.tmod 6) (by omega)).ok,?_⟩
 repeat first | refine ⟨fun _=>⟨by omega,by omega⟩,?_⟩ | refine ⟨fun _ h=>by omega,?_⟩
 refine .inl ⟨_,fun _=>pN.ok,?_⟩
 repeat first | refine ⟨fun _=>⟨by omega,by omega⟩,?_⟩ | refine ⟨fun _ h=>by omega,?_⟩
 clear e6 Dd nJ ir g6 De Df nL d6 d36 mB gM f6 f54 f60 lW
 refine And.intro (fun h=>absurd ((sB h).symm.trans hc) (by decide)) ?_
 intro c0
 have c0:=pU c0
 refine And.intro ?_ (fun h=>absurd hc (pU h))
 intro c1
 have c1:=sB c1
 have hB:dN k aR=(0,[⟨0,ai k,(k.tdiv 252).tmod 4,3 * (1+(k.tdiv 36).tmod 7)⟩,⟨0,ai (k.tdiv 6+1+k.tmod 6),1,5 * (1+(k.tdiv 36).tmod 7)⟩]):=by unfold dN; simp only; rw [if_pos (by omega)]
 repeat refine ⟨fun _=>by assumption,?_⟩
 refine Or.inr ?_
 refine Or.inl ?_
 refine ⟨[cD ⟨0,ai k,(k.tdiv 252).tmod 4,3 * (1+(k.tdiv 36).tmod 7)⟩,cD ⟨0,ai (k.tdiv 6+1+k.tmod 6),1,5 * (1+(k.tdiv 36).tmod 7)⟩],rfl,⟨rf,rf,rf,rf,rf,rf,rf,rf,rf,rf,tv⟩,(by simp; exact ⟨rfl,rfl⟩),?_⟩
 unfold j6; rw [hB]
 refine ⟨id,fun _=>cq,fun _=>cr,id,fun _=>z9,id,fun _ h=>ax h,?_⟩
 refine And.intro ?_ ?_
 ·intro iF
  have hq:=qt iF
  refine ⟨fun _=>cH,fun _=>cI,fun _=>z3,fun _=>s0,?_⟩
  refine ⟨fun _=>⟨Int.le_refl 0,by simp⟩,[I ((aR.tdiv 540).tmod 3 - 1)],⟨rf,tv⟩,cD ⟨0,ai k,(k.tdiv 252).tmod 4,3 * (1+(k.tdiv 36).tmod 7)⟩,rfl,?_⟩
  refine ⟨id,fun _=>cq,fun _=>cr,id,fun _=>z9,id,fun _ h=>ax h,?_⟩
  refine And.intro ?_ ?_
  ·intro h; exact absurd ((qt h).2.symm.trans hq.2) (by decide)
  intro _
  refine ⟨id,fun _=>cq,fun _=>cr,id,fun _=>z9,id,fun _ h=>ax h,?_⟩
  refine And.intro ?_ ?_
  ·intro h; exact absurd ((qt h).2.symm.trans hq.2) (by decide)
  intro _
  refine ⟨id,fun _=>cq,fun _=>cr,id,fun _=>z9,id,fun _ h=>ax h,?_⟩
  refine And.intro ?_ ?_
  ·intro h; exact absurd ((qt h).2.symm.trans hq.2) (by decide)
  intro _
  rw [mg hq]
  exact ⟨rf,tv⟩
 intro iF
 refine ⟨id,fun _=>cq,fun _=>cr,id,fun _=>z9,id,fun _ h=>ax h,?_⟩
 refine And.intro ?_ ?_
 ·intro iM
  have hq:=qt iM
  refine ⟨fun _=>cH,fun _=>cI,fun _=>z2,fun _=>xR,fun _=>xS,?_⟩
  refine ⟨fun _=>⟨Int.le_refl 0,by simp⟩,[I (4 - (aR.tdiv 540).tmod 2 * 5)],⟨rf,tv⟩,cD ⟨0,ai k,(k.tdiv 252).tmod 4,3 * (1+(k.tdiv 36).tmod 7)⟩,rfl,?_⟩
  refine ⟨id,fun _=>cq,fun _=>cr,id,fun _=>z9,id,fun _ h=>ax h,?_⟩
  refine And.intro ?_ ?_
  ·intro h; exact absurd ((qt h).2.symm.trans hq.2) (by decide)
  intro _
  refine ⟨id,fun _=>cq,fun _=>cr,id,fun _=>z9,id,fun _ h=>ax h,?_⟩
  refine And.intro ?_ ?_
  ·intro h; exact absurd ((qt h).2.symm.trans hq.2) (by decide)
  intro _
  rw [mi hq]
  exact ⟨rf,tv⟩
 intro iM
 refine ⟨id,fun _=>cq,fun _=>cr,id,fun _=>z9,id,fun _ h=>ax h,?_⟩
 refine And.intro ?_ ?_
 ·intro gE
  have hq:=qt gE
  refine ⟨fun _=>xT,fun _=>cH,fun _=>cI,fun _=>z3,fun _=>xU,?_⟩
  refine ⟨id,fun _=>cq,fun _=>cr,id,fun _=>z9,id,fun _ h=>ax h,?_⟩
  refine And.intro ?_ ?_
  ·intro h; exact absurd ((qt h).2.symm.trans hq.2) (by decide)
  intro _
  rw [mj hq]
  exact ⟨rf,tv⟩
 intro gE
 refine ⟨id,fun _=>cq,fun _=>cr,id,fun _=>z9,id,fun _ h=>ax h,?_⟩
 refine And.intro ?_ ?_
 ·intro jP
  have hq:=qt jP
  skip
  refine ⟨fun _=>⟨Int.le_refl 0,by simp⟩,cD ⟨0,ai k,(k.tdiv 252).tmod 4,3 * (1+(k.tdiv 36).tmod 7)⟩,fun _=>rfl,?_⟩
  refine ⟨fun _=>cH,fun _=>cI,fun _=>z2,fun _=>xV,fun _=>⟨by show _≤0 - (aR.tdiv 540).tmod 2 * 1073741825; omega,by show 0 - (aR.tdiv 540).tmod 2 * 1073741825≤_; omega⟩,?_⟩
  refine ⟨fun _=>⟨Int.le_refl 0,by simp⟩,[I (0 - (aR.tdiv 540).tmod 2 * 1073741825)],⟨rf,tv⟩,cD ⟨0,ai k,(k.tdiv 252).tmod 4,3 * (1+(k.tdiv 36).tmod 7)⟩,rfl,?_⟩
  refine ⟨by kernel_rfl,?_⟩
  rw [mn hq]
  exact ⟨rf,tv⟩
 intro jP
 rw [mo (qf iF) (qf iM) (qf gE) (qf jP)]
 exact ⟨rf,tv⟩
end Go.Proofs.YtpbdohkbiklflaaGreatDoor
namespace Go.Proofs.YtpbdohkbiklflaaGreatDoor
open Go.TM
variable [de]
set_option maxRecDepth 100000
set_option maxHeartbeats 4000000 in
theorem NX (l:List Int) (hl:∀x∈l,Bg x) (at' tick:Int) (bad:Bool) (ha:0≤at'∧at'≤1000000) (ht:0≤tick∧tick≤1099511627776) (hc:(bu l (at'+1) 1000000).tmod 6=4):ct Tryz.prog 19 [eY l,I at',I tick,B bad] [gL (fp l at' tick bad)]:=by
 refine bp aG mixed (aq _) (ar _) Tryz.func19 rfl (by kernel_rfl) rfl ?_
 have Cj:=cA l at' 1000000 hl (by omega) (by omega)
 have pN:=cA l (at'+1) 1000000 hl (by omega) (by omega)
 obtain ⟨k0,k1⟩:=cY l at' 1000000 (by omega)
 obtain ⟨w0,w1⟩:=cY l (at'+1) 1000000 (by omega)
 refine .inl ⟨_,fun _=>Cj.ok,?_⟩
 unfold fp
 generalize bu l at' 1000000=k at *
 generalize bu l (at'+1) 1000000=aR at *
 obtain ⟨d6,d36,mB,gM,e6,Dd,nJ,ir,m6,NI,m7,NJ,m4,NK,n4,NL,f6,f54,f60,lW,g6,De,Df,nL,h9,NM,Cr,AZ,h3,Ja,h2,DL,i2,NN,ba,bb,cq,cH,NO,z9,z6,NP,z3,z2,cr,cI,NQ,o6,s0,xR,xS,xT,xU,xV,b3,b5,NR,NS,NT,b9,NU⟩:=tw k0 k1 w0 w1 ht
 refine .inl ⟨_,fun _=>(bz k k0).ok,?_⟩
 repeat first | refine ⟨fun _=>⟨by omega,by omega⟩,?_⟩ | refine ⟨fun _ h=>by omega,?_⟩
 refine .inl ⟨_,fun _=>(bz (k.tdiv 6+1+k.tmod 6) (by omega)).ok,?_⟩
 repeat first | refine ⟨fun _=>⟨by omega,by omega⟩,?_⟩ | refine ⟨fun _ h=>by omega,?_⟩
 refine .inl ⟨_,fun _=>pN.ok,?_⟩
 repeat first | refine ⟨fun _=>⟨by omega,by omega⟩,?_⟩ | refine ⟨fun _ h=>by omega,?_⟩
 clear e6 Dd nJ ir g6 De Df nL d6 d36 mB gM f6 f54 f60 lW
 refine And.intro (fun h=>absurd ((sB h).symm.trans hc) (by decide)) ?_
 intro c0
 have c0:=pU c0
 refine And.intro (fun h=>absurd ((sB h).symm.trans hc) (by decide)) ?_
 intro c1
 have c1:=pU c1
 refine And.intro (fun h=>absurd ((sB h).symm.trans hc) (by decide)) ?_
 intro c2
 have c2:=pU c2
 refine And.intro (fun h=>absurd ((sB h).symm.trans hc) (by decide)) ?_
 intro c3
 have c3:=pU c3
 refine And.intro ?_ (fun h=>absurd hc (pU h))
 intro c4
 have c4:=sB c4
 have hB:dN k aR=((aR.tdiv 6).tmod 11,[⟨ai k,0,(k.tdiv 252).tmod 4,1+(k.tdiv 36).tmod 7⟩]):=by unfold dN; simp only; rw [if_neg (by omega),if_neg (by omega),if_pos (by omega)]
 repeat refine ⟨fun _=>by assumption,?_⟩
 refine Or.inr ?_
 refine Or.inl ?_
 refine ⟨[cD ⟨ai k,0,(k.tdiv 252).tmod 4,1+(k.tdiv 36).tmod 7⟩],rfl,⟨rf,rf,rf,rf,rf,tv⟩,(by simp; rfl),?_⟩
 unfold j6; rw [hB]
 refine ⟨id,fun _=>cq,fun _=>cr,id,fun _=>z9,id,fun _ h=>ax h,?_⟩
 refine And.intro ?_ ?_
 ·intro iF
  have hq:=qt iF
  refine ⟨fun _=>cH,fun _=>cI,fun _=>z3,fun _=>s0,?_⟩
  refine ⟨fun _=>⟨Int.le_refl 0,by simp⟩,[I ((aR.tdiv 540).tmod 3 - 1)],⟨rf,tv⟩,cD ⟨ai k,0,(k.tdiv 252).tmod 4,1+(k.tdiv 36).tmod 7⟩,rfl,?_⟩
  refine ⟨id,fun _=>cq,fun _=>cr,id,fun _=>z9,id,fun _ h=>ax h,?_⟩
  refine And.intro ?_ ?_
  ·intro h; exact absurd ((qt h).2.symm.trans hq.2) (by decide)
  intro _
  refine ⟨id,fun _=>cq,fun _=>cr,id,fun _=>z9,id,fun _ h=>ax h,?_⟩
  refine And.intro ?_ ?_
  ·intro h; exact absurd ((qt h).2.symm.trans hq.2) (by decide)
  intro _
  refine ⟨id,fun _=>cq,fun _=>cr,id,fun _=>z9,id,fun _ h=>ax h,?_⟩
  refine And.intro ?_ ?_
  ·intro h; exact absurd ((qt h).2.symm.trans hq.2) (by decide)
  intro _
  rw [mg hq]
  exact ⟨rf,tv⟩
 intro iF
 refine ⟨id,fun _=>cq,fun _=>cr,id,fun _=>z9,id,fun _ h=>ax h,?_⟩
 refine And.intro ?_ ?_
 ·intro iM
  have hq:=qt iM
  refine ⟨fun _=>cH,fun _=>cI,fun _=>z2,fun _=>xR,fun _=>xS,?_⟩
  refine ⟨fun _=>⟨Int.le_refl 0,by simp⟩,[I (4 - (aR.tdiv 540).tmod 2 * 5)],⟨rf,tv⟩,cD ⟨ai k,0,(k.tdiv 252).tmod 4,1+(k.tdiv 36).tmod 7⟩,rfl,?_⟩
  refine ⟨id,fun _=>cq,fun _=>cr,id,fun _=>z9,id,fun _ h=>ax h,?_⟩
  refine And.intro ?_ ?_
  ·intro h; exact absurd ((qt h).2.symm.trans hq.2) (by decide)
  intro _
  refine ⟨id,fun _=>cq,fun _=>cr,id,fun _=>z9,id,fun _ h=>ax h,?_⟩
  refine And.intro ?_ ?_
  ·intro h; exact absurd ((qt h).2.symm.trans hq.2) (by decide)
  intro _
  rw [mi hq]
  exact ⟨rf,tv⟩
 intro iM
 refine ⟨id,fun _=>cq,fun _=>cr,id,fun _=>z9,id,fun _ h=>ax h,?_⟩
 refine And.intro ?_ ?_
 ·intro gE
  have hq:=qt gE
  refine ⟨fun _=>xT,fun _=>cH,fun _=>cI,fun _=>z3,fun _=>xU,?_⟩
  refine ⟨id,fun _=>cq,fun _=>cr,id,fun _=>z9,id,fun _ h=>ax h,?_⟩
  refine And.intro ?_ ?_
  ·intro h; exact absurd ((qt h).2.symm.trans hq.2) (by decide)
  intro _
  rw [mj hq]
  exact ⟨rf,tv⟩
 intro gE
 refine ⟨id,fun _=>cq,fun _=>cr,id,fun _=>z9,id,fun _ h=>ax h,?_⟩
 refine And.intro ?_ ?_
 ·intro jP
  have hq:=qt jP
  skip
  refine ⟨fun _=>⟨Int.le_refl 0,by simp⟩,cD ⟨ai k,0,(k.tdiv 252).tmod 4,1+(k.tdiv 36).tmod 7⟩,fun _=>rfl,?_⟩
  refine ⟨fun _=>cH,fun _=>cI,fun _=>z2,fun _=>xV,fun _=>⟨by show _≤ai k - (aR.tdiv 540).tmod 2 * 1073741825; omega,by show ai k - (aR.tdiv 540).tmod 2 * 1073741825≤_; omega⟩,?_⟩
  refine ⟨fun _=>⟨Int.le_refl 0,by simp⟩,[I (ai k - (aR.tdiv 540).tmod 2 * 1073741825)],⟨rf,tv⟩,cD ⟨ai k,0,(k.tdiv 252).tmod 4,1+(k.tdiv 36).tmod 7⟩,rfl,?_⟩
  refine ⟨by kernel_rfl,?_⟩
  rw [mn hq]
  exact ⟨rf,tv⟩
 intro jP
 rw [mo (qf iF) (qf iM) (qf gE) (qf jP)]
 exact ⟨rf,tv⟩
set_option maxHeartbeats 4000000 in
theorem NY (l:List Int) (hl:∀x∈l,Bg x) (at' tick:Int) (bad:Bool) (ha:0≤at'∧at'≤1000000) (ht:0≤tick∧tick≤1099511627776) (hc:(bu l (at'+1) 1000000).tmod 6=5):ct Tryz.prog 19 [eY l,I at',I tick,B bad] [gL (fp l at' tick bad)]:=by
 refine bp aG mixed (aq _) (ar _) Tryz.func19 rfl (by kernel_rfl) rfl ?_
 have Cj:=cA l at' 1000000 hl (by omega) (by omega)
 have pN:=cA l (at'+1) 1000000 hl (by omega) (by omega)
 obtain ⟨k0,k1⟩:=cY l at' 1000000 (by omega)
 obtain ⟨w0,w1⟩:=cY l (at'+1) 1000000 (by omega)
 refine .inl ⟨_,fun _=>Cj.ok,?_⟩
 unfold fp
 generalize bu l at' 1000000=k at *
 generalize bu l (at'+1) 1000000=aR at *
 obtain ⟨d6,d36,mB,gM,e6,Dd,nJ,ir,m6,NI,m7,NJ,m4,NK,n4,NL,f6,f54,f60,lW,g6,De,Df,nL,h9,NM,Cr,AZ,h3,Ja,h2,DL,i2,NN,ba,bb,cq,cH,NO,z9,z6,NP,z3,z2,cr,cI,NQ,o6,s0,xR,xS,xT,xU,xV,b3,b5,NR,NS,NT,b9,NU⟩:=tw k0 k1 w0 w1 ht
 refine .inl ⟨_,fun _=>(bz k k0).ok,?_⟩
 repeat first | refine ⟨fun _=>⟨by omega,by omega⟩,?_⟩ | refine ⟨fun _ h=>by omega,?_⟩
 refine .inl ⟨_,fun _=>(bz (k.tdiv 6+1+k.tmod 6) (by omega)).ok,?_⟩
 repeat first | refine ⟨fun _=>⟨by omega,by omega⟩,?_⟩ | refine ⟨fun _ h=>by omega,?_⟩
 refine .inl ⟨_,fun _=>pN.ok,?_⟩
 repeat first | refine ⟨fun _=>⟨by omega,by omega⟩,?_⟩ | refine ⟨fun _ h=>by omega,?_⟩
 clear e6 Dd nJ ir g6 De Df nL d6 d36 mB gM f6 f54 f60 lW
 refine And.intro (fun h=>absurd ((sB h).symm.trans hc) (by decide)) ?_
 intro c0
 have c0:=pU c0
 refine And.intro (fun h=>absurd ((sB h).symm.trans hc) (by decide)) ?_
 intro c1
 have c1:=pU c1
 refine And.intro (fun h=>absurd ((sB h).symm.trans hc) (by decide)) ?_
 intro c2
 have c2:=pU c2
 refine And.intro (fun h=>absurd ((sB h).symm.trans hc) (by decide)) ?_
 intro c3
 have c3:=pU c3
 refine And.intro (fun h=>absurd ((sB h).symm.trans hc) (by decide)) ?_
 intro c4
 have c4:=pU c4
 have hB:dN k aR=(2,[⟨0,ai k,(k.tdiv 252).tmod 4,1+(k.tdiv 36).tmod 7⟩,⟨ai k,3 * ai k,(k.tdiv 252).tmod 4,1+(k.tdiv 36).tmod 7⟩,⟨3 * ai k,ai k,(k.tdiv 252).tmod 4,1⟩]):=by unfold dN; simp only; rw [if_neg (by omega),if_neg (by omega),if_neg (by omega)]
 repeat refine ⟨fun _=>by assumption,?_⟩
 refine Or.inr ?_
 refine Or.inl ?_
 refine ⟨[cD ⟨0,ai k,(k.tdiv 252).tmod 4,1+(k.tdiv 36).tmod 7⟩,cD ⟨ai k,3 * ai k,(k.tdiv 252).tmod 4,1+(k.tdiv 36).tmod 7⟩,cD ⟨3 * ai k,ai k,(k.tdiv 252).tmod 4,1⟩],rfl,⟨rf,rf,rf,rf,rf,rf,rf,rf,rf,rf,rf,rf,rf,rf,rf,tv⟩,(by simp; exact ⟨rfl,rfl,rfl⟩),?_⟩
 unfold j6; rw [hB]
 refine ⟨id,fun _=>cq,fun _=>cr,id,fun _=>z9,id,fun _ h=>ax h,?_⟩
 refine And.intro ?_ ?_
 ·intro iF
  have hq:=qt iF
  refine ⟨fun _=>cH,fun _=>cI,fun _=>z3,fun _=>s0,?_⟩
  refine ⟨fun _=>⟨Int.le_refl 0,by simp⟩,[I ((aR.tdiv 540).tmod 3 - 1)],⟨rf,tv⟩,cD ⟨0,ai k,(k.tdiv 252).tmod 4,1+(k.tdiv 36).tmod 7⟩,rfl,?_⟩
  refine ⟨id,fun _=>cq,fun _=>cr,id,fun _=>z9,id,fun _ h=>ax h,?_⟩
  refine And.intro ?_ ?_
  ·intro h; exact absurd ((qt h).2.symm.trans hq.2) (by decide)
  intro _
  refine ⟨id,fun _=>cq,fun _=>cr,id,fun _=>z9,id,fun _ h=>ax h,?_⟩
  refine And.intro ?_ ?_
  ·intro h; exact absurd ((qt h).2.symm.trans hq.2) (by decide)
  intro _
  refine ⟨id,fun _=>cq,fun _=>cr,id,fun _=>z9,id,fun _ h=>ax h,?_⟩
  refine And.intro ?_ ?_
  ·intro h; exact absurd ((qt h).2.symm.trans hq.2) (by decide)
  intro _
  rw [mg hq]
  exact ⟨rf,tv⟩
 intro iF
 refine ⟨id,fun _=>cq,fun _=>cr,id,fun _=>z9,id,fun _ h=>ax h,?_⟩
 refine And.intro ?_ ?_
 ·intro iM
  have hq:=qt iM
  refine ⟨fun _=>cH,fun _=>cI,fun _=>z2,fun _=>xR,fun _=>xS,?_⟩
  refine ⟨fun _=>⟨Int.le_refl 0,by simp⟩,[I (4 - (aR.tdiv 540).tmod 2 * 5)],⟨rf,tv⟩,cD ⟨0,ai k,(k.tdiv 252).tmod 4,1+(k.tdiv 36).tmod 7⟩,rfl,?_⟩
  refine ⟨id,fun _=>cq,fun _=>cr,id,fun _=>z9,id,fun _ h=>ax h,?_⟩
  refine And.intro ?_ ?_
  ·intro h; exact absurd ((qt h).2.symm.trans hq.2) (by decide)
  intro _
  refine ⟨id,fun _=>cq,fun _=>cr,id,fun _=>z9,id,fun _ h=>ax h,?_⟩
  refine And.intro ?_ ?_
  ·intro h; exact absurd ((qt h).2.symm.trans hq.2) (by decide)
  intro _
  rw [mi hq]
  exact ⟨rf,tv⟩
 intro iM
 refine ⟨id,fun _=>cq,fun _=>cr,id,fun _=>z9,id,fun _ h=>ax h,?_⟩
 refine And.intro ?_ ?_
 ·intro gE
  have hq:=qt gE
  refine ⟨fun _=>xT,fun _=>cH,fun _=>cI,fun _=>z3,fun _=>xU,?_⟩
  refine ⟨id,fun _=>cq,fun _=>cr,id,fun _=>z9,id,fun _ h=>ax h,?_⟩
  refine And.intro ?_ ?_
  ·intro h; exact absurd ((qt h).2.symm.trans hq.2) (by decide)
  intro _
  rw [mj hq]
  exact ⟨rf,tv⟩
 intro gE
 refine ⟨id,fun _=>cq,fun _=>cr,id,fun _=>z9,id,fun _ h=>ax h,?_⟩
 refine And.intro ?_ ?_
 ·intro jP
  have hq:=qt jP
  skip
  refine ⟨fun _=>⟨Int.le_refl 0,by simp⟩,cD ⟨0,ai k,(k.tdiv 252).tmod 4,1+(k.tdiv 36).tmod 7⟩,fun _=>rfl,?_⟩
  refine ⟨fun _=>cH,fun _=>cI,fun _=>z2,fun _=>xV,fun _=>⟨by show _≤0 - (aR.tdiv 540).tmod 2 * 1073741825; omega,by show 0 - (aR.tdiv 540).tmod 2 * 1073741825≤_; omega⟩,?_⟩
  refine ⟨fun _=>⟨Int.le_refl 0,by simp⟩,[I (0 - (aR.tdiv 540).tmod 2 * 1073741825)],⟨rf,tv⟩,cD ⟨0,ai k,(k.tdiv 252).tmod 4,1+(k.tdiv 36).tmod 7⟩,rfl,?_⟩
  refine ⟨by kernel_rfl,?_⟩
  rw [mn hq]
  exact ⟨rf,tv⟩
 intro jP
 rw [mo (qf iF) (qf iM) (qf gE) (qf jP)]
 exact ⟨rf,tv⟩
end Go.Proofs.YtpbdohkbiklflaaGreatDoor
namespace Go.Proofs.YtpbdohkbiklflaaGreatDoor
open Go.TM
variable [de]
set_option maxRecDepth 100000
set_option maxHeartbeats 4000000 in
theorem LC (l:List Int) (hl:∀x∈l,Bg x) (at' tick:Int) (bad:Bool) (ha:0≤at'∧at'≤1000000) (ht:0≤tick∧tick≤1099511627776) (hc:(bu l (at'+1) 1000000).tmod 6=2) (hd:ai (bu l at' 1000000)=ai ((bu l at' 1000000).tdiv 6+1+(bu l at' 1000000).tmod 6)):ct Tryz.prog 19 [eY l,I at',I tick,B bad] [gL (fp l at' tick bad)]:=by
 refine bp aG mixed (aq _) (ar _) Tryz.func19 rfl (by kernel_rfl) rfl ?_
 have Cj:=cA l at' 1000000 hl (by omega) (by omega)
 have pN:=cA l (at'+1) 1000000 hl (by omega) (by omega)
 obtain ⟨k0,k1⟩:=cY l at' 1000000 (by omega)
 obtain ⟨w0,w1⟩:=cY l (at'+1) 1000000 (by omega)
 refine .inl ⟨_,fun _=>Cj.ok,?_⟩
 unfold fp
 generalize bu l at' 1000000=k at *
 generalize bu l (at'+1) 1000000=aR at *
 obtain ⟨d6,d36,mB,gM,e6,Dd,nJ,ir,m6,NI,m7,NJ,m4,NK,n4,NL,f6,f54,f60,lW,g6,De,Df,nL,h9,NM,Cr,AZ,h3,Ja,h2,DL,i2,NN,ba,bb,cq,cH,NO,z9,z6,NP,z3,z2,cr,cI,NQ,o6,s0,xR,xS,xT,xU,xV,b3,b5,NR,NS,NT,b9,NU⟩:=tw k0 k1 w0 w1 ht
 refine .inl ⟨_,fun _=>(bz k k0).ok,?_⟩
 repeat first | refine ⟨fun _=>⟨by omega,by omega⟩,?_⟩ | refine ⟨fun _ h=>by omega,?_⟩
 refine .inl ⟨_,fun _=>(bz (k.tdiv 6+1+k.tmod 6) (by omega)).ok,?_⟩
 repeat first | refine ⟨fun _=>⟨by omega,by omega⟩,?_⟩ | refine ⟨fun _ h=>by omega,?_⟩
 refine .inl ⟨_,fun _=>pN.ok,?_⟩
 repeat first | refine ⟨fun _=>⟨by omega,by omega⟩,?_⟩ | refine ⟨fun _ h=>by omega,?_⟩
 clear e6 Dd nJ ir g6 De Df nL d6 d36 mB gM f6 f54 f60 lW
 refine And.intro (fun h=>absurd ((sB h).symm.trans hc) (by decide)) ?_
 intro c0
 have c0:=pU c0
 refine And.intro (fun h=>absurd ((sB h).symm.trans hc) (by decide)) ?_
 intro c1
 have c1:=pU c1
 refine And.intro ?_ (fun h=>absurd hc (pU h))
 intro c2
 have c2:=sB c2
 refine And.intro ?_ (fun h=>absurd c2 (pU h))
 intro _
 refine And.intro ?_ (fun h=>absurd hd (by simpa using h))
 ·intro sL
  have sL:ai k=ai (k.tdiv 6+1+k.tmod 6):=by simpa using sL
  repeat refine ⟨fun _=>by assumption,?_⟩
  refine Or.inr ?_
  refine Or.inl ?_
  refine ⟨[cD ⟨ai k,ai k+1,((k.tdiv 252).tmod 4).tdiv 2 * 2,1+(k.tdiv 36).tmod 7⟩,cD ⟨ai k+1,ai k,1,1+(aR.tdiv 6).tmod 9⟩],rfl,⟨rf,rf,rf,rf,rf,rf,rf,rf,rf,rf,tv⟩,(by simp; exact ⟨rfl,rfl⟩),?_⟩
  repeat refine ⟨fun _=>by assumption,?_⟩
  refine And.intro ?_ ?_
  ·intro pO
   have pO:(aR.tdiv 54).tmod 2=1:=by simpa using pO
   have hB:dN k aR=(2,[⟨ai k+1,ai k,1,1+(aR.tdiv 6).tmod 9⟩,⟨ai k,ai k+1,((k.tdiv 252).tmod 4).tdiv 2 * 2,1+(k.tdiv 36).tmod 7⟩]):=by unfold dN; simp only; rw [if_neg (by omega),if_pos (by omega),if_pos sL,if_pos pO]
   refine ⟨fun _=>⟨by decide,by simp⟩,cD ⟨ai k+1,ai k,1,1+(aR.tdiv 6).tmod 9⟩,fun _=>rfl,?_⟩
   refine ⟨fun _=>⟨Int.le_refl 0,by simp⟩,cD ⟨ai k,ai k+1,((k.tdiv 252).tmod 4).tdiv 2 * 2,1+(k.tdiv 36).tmod 7⟩,fun _=>rfl,?_⟩
   refine Or.inr ?_
   refine Or.inl ?_
   refine ⟨[cD ⟨ai k+1,ai k,1,1+(aR.tdiv 6).tmod 9⟩,cD ⟨ai k,ai k+1,((k.tdiv 252).tmod 4).tdiv 2 * 2,1+(k.tdiv 36).tmod 7⟩],rfl,⟨rf,rf,rf,rf,rf,rf,rf,rf,rf,rf,tv⟩,(by simp; exact ⟨rfl,rfl⟩),?_⟩
   refine ⟨by kernel_rfl,?_⟩
   unfold j6; rw [hB]
   refine ⟨id,fun _=>cq,fun _=>cr,id,fun _=>z9,id,fun _ h=>ax h,?_⟩
   refine And.intro ?_ ?_
   ·intro iF
    have hq:=qt iF
    refine ⟨fun _=>cH,fun _=>cI,fun _=>z3,fun _=>s0,?_⟩
    refine ⟨fun _=>⟨Int.le_refl 0,by simp⟩,[I ((aR.tdiv 540).tmod 3 - 1)],⟨rf,tv⟩,cD ⟨ai k+1,ai k,1,1+(aR.tdiv 6).tmod 9⟩,rfl,?_⟩
    refine ⟨id,fun _=>cq,fun _=>cr,id,fun _=>z9,id,fun _ h=>ax h,?_⟩
    refine And.intro ?_ ?_
    ·intro h; exact absurd ((qt h).2.symm.trans hq.2) (by decide)
    intro _
    refine ⟨id,fun _=>cq,fun _=>cr,id,fun _=>z9,id,fun _ h=>ax h,?_⟩
    refine And.intro ?_ ?_
    ·intro h; exact absurd ((qt h).2.symm.trans hq.2) (by decide)
    intro _
    refine ⟨id,fun _=>cq,fun _=>cr,id,fun _=>z9,id,fun _ h=>ax h,?_⟩
    refine And.intro ?_ ?_
    ·intro h; exact absurd ((qt h).2.symm.trans hq.2) (by decide)
    intro _
    rw [mg hq]
    exact ⟨rf,tv⟩
   intro iF
   refine ⟨id,fun _=>cq,fun _=>cr,id,fun _=>z9,id,fun _ h=>ax h,?_⟩
   refine And.intro ?_ ?_
   ·intro iM
    have hq:=qt iM
    refine ⟨fun _=>cH,fun _=>cI,fun _=>z2,fun _=>xR,fun _=>xS,?_⟩
    refine ⟨fun _=>⟨Int.le_refl 0,by simp⟩,[I (4 - (aR.tdiv 540).tmod 2 * 5)],⟨rf,tv⟩,cD ⟨ai k+1,ai k,1,1+(aR.tdiv 6).tmod 9⟩,rfl,?_⟩
    refine ⟨id,fun _=>cq,fun _=>cr,id,fun _=>z9,id,fun _ h=>ax h,?_⟩
    refine And.intro ?_ ?_
    ·intro h; exact absurd ((qt h).2.symm.trans hq.2) (by decide)
    intro _
    refine ⟨id,fun _=>cq,fun _=>cr,id,fun _=>z9,id,fun _ h=>ax h,?_⟩
    refine And.intro ?_ ?_
    ·intro h; exact absurd ((qt h).2.symm.trans hq.2) (by decide)
    intro _
    rw [mi hq]
    exact ⟨rf,tv⟩
   intro iM
   refine ⟨id,fun _=>cq,fun _=>cr,id,fun _=>z9,id,fun _ h=>ax h,?_⟩
   refine And.intro ?_ ?_
   ·intro gE
    have hq:=qt gE
    refine ⟨fun _=>xT,fun _=>cH,fun _=>cI,fun _=>z3,fun _=>xU,?_⟩
    refine ⟨id,fun _=>cq,fun _=>cr,id,fun _=>z9,id,fun _ h=>ax h,?_⟩
    refine And.intro ?_ ?_
    ·intro h; exact absurd ((qt h).2.symm.trans hq.2) (by decide)
    intro _
    rw [mj hq]
    exact ⟨rf,tv⟩
   intro gE
   refine ⟨id,fun _=>cq,fun _=>cr,id,fun _=>z9,id,fun _ h=>ax h,?_⟩
   refine And.intro ?_ ?_
   ·intro jP
    have hq:=qt jP
    skip
    refine ⟨fun _=>⟨Int.le_refl 0,by simp⟩,cD ⟨ai k+1,ai k,1,1+(aR.tdiv 6).tmod 9⟩,fun _=>rfl,?_⟩
    refine ⟨fun _=>cH,fun _=>cI,fun _=>z2,fun _=>xV,fun _=>⟨by show _≤ai k+1 - (aR.tdiv 540).tmod 2 * 1073741825; omega,by show ai k+1 - (aR.tdiv 540).tmod 2 * 1073741825≤_; omega⟩,?_⟩
    refine ⟨fun _=>⟨Int.le_refl 0,by simp⟩,[I (ai k+1 - (aR.tdiv 540).tmod 2 * 1073741825)],⟨rf,tv⟩,cD ⟨ai k+1,ai k,1,1+(aR.tdiv 6).tmod 9⟩,rfl,?_⟩
    refine ⟨by kernel_rfl,?_⟩
    rw [mn hq]
    exact ⟨rf,tv⟩
   intro jP
   rw [mo (qf iF) (qf iM) (qf gE) (qf jP)]
   exact ⟨rf,tv⟩
  ·intro pO
   have pO:¬ (aR.tdiv 54).tmod 2=1:=by simpa using pO
   have hB:dN k aR=(2,[⟨ai k,ai k+1,((k.tdiv 252).tmod 4).tdiv 2 * 2,1+(k.tdiv 36).tmod 7⟩,⟨ai k+1,ai k,1,1+(aR.tdiv 6).tmod 9⟩]):=by unfold dN; simp only; rw [if_neg (by omega),if_pos (by omega),if_pos sL,if_neg pO]
   unfold j6; rw [hB]
   refine ⟨id,fun _=>cq,fun _=>cr,id,fun _=>z9,id,fun _ h=>ax h,?_⟩
   refine And.intro ?_ ?_
   ·intro iF
    have hq:=qt iF
    refine ⟨fun _=>cH,fun _=>cI,fun _=>z3,fun _=>s0,?_⟩
    refine ⟨fun _=>⟨Int.le_refl 0,by simp⟩,[I ((aR.tdiv 540).tmod 3 - 1)],⟨rf,tv⟩,cD ⟨ai k,ai k+1,((k.tdiv 252).tmod 4).tdiv 2 * 2,1+(k.tdiv 36).tmod 7⟩,rfl,?_⟩
    refine ⟨id,fun _=>cq,fun _=>cr,id,fun _=>z9,id,fun _ h=>ax h,?_⟩
    refine And.intro ?_ ?_
    ·intro h; exact absurd ((qt h).2.symm.trans hq.2) (by decide)
    intro _
    refine ⟨id,fun _=>cq,fun _=>cr,id,fun _=>z9,id,fun _ h=>ax h,?_⟩
    refine And.intro ?_ ?_
    ·intro h; exact absurd ((qt h).2.symm.trans hq.2) (by decide)
    intro _
    refine ⟨id,fun _=>cq,fun _=>cr,id,fun _=>z9,id,fun _ h=>ax h,?_⟩
    refine And.intro ?_ ?_
    ·intro h; exact absurd ((qt h).2.symm.trans hq.2) (by decide)
    intro _
    rw [mg hq]
    exact ⟨rf,tv⟩
   intro iF
   refine ⟨id,fun _=>cq,fun _=>cr,id,fun _=>z9,id,fun _ h=>ax h,?_⟩
   refine And.intro ?_ ?_
   ·intro iM
    have hq:=qt iM
    refine ⟨fun _=>cH,fun _=>cI,fun _=>z2,fun _=>xR,fun _=>xS,?_⟩
    refine ⟨fun _=>⟨Int.le_refl 0,by simp⟩,[I (4 - (aR.tdiv 540).tmod 2 * 5)],⟨rf,tv⟩,cD ⟨ai k,ai k+1,((k.tdiv 252).tmod 4).tdiv 2 * 2,1+(k.tdiv 36).tmod 7⟩,rfl,?_⟩
    refine ⟨id,fun _=>cq,fun _=>cr,id,fun _=>z9,id,fun _ h=>ax h,?_⟩
    refine And.intro ?_ ?_
    ·intro h; exact absurd ((qt h).2.symm.trans hq.2) (by decide)
    intro _
    refine ⟨id,fun _=>cq,fun _=>cr,id,fun _=>z9,id,fun _ h=>ax h,?_⟩
    refine And.intro ?_ ?_
    ·intro h; exact absurd ((qt h).2.symm.trans hq.2) (by decide)
    intro _
    rw [mi hq]
    exact ⟨rf,tv⟩
   intro iM
   refine ⟨id,fun _=>cq,fun _=>cr,id,fun _=>z9,id,fun _ h=>ax h,?_⟩
   refine And.intro ?_ ?_
   ·intro gE
    have hq:=qt gE
    refine ⟨fun _=>xT,fun _=>cH,fun _=>cI,fun _=>z3,fun _=>xU,?_⟩
    refine ⟨id,fun _=>cq,fun _=>cr,id,fun _=>z9,id,fun _ h=>ax h,?_⟩
    refine And.intro ?_ ?_
    ·intro h; exact absurd ((qt h).2.symm.trans hq.2) (by decide)
    intro _
    rw [mj hq]
    exact ⟨rf,tv⟩
   intro gE
   refine ⟨id,fun _=>cq,fun _=>cr,id,fun _=>z9,id,fun _ h=>ax h,?_⟩
   refine And.intro ?_ ?_
   ·intro jP
    have hq:=qt jP
    skip
    refine ⟨fun _=>⟨Int.le_refl 0,by simp⟩,cD ⟨ai k,ai k+1,((k.tdiv 252).tmod 4).tdiv 2 * 2,1+(k.tdiv 36).tmod 7⟩,fun _=>rfl,?_⟩
    refine ⟨fun _=>cH,fun _=>cI,fun _=>z2,fun _=>xV,fun _=>⟨by show _≤ai k - (aR.tdiv 540).tmod 2 * 1073741825; omega,by show ai k - (aR.tdiv 540).tmod 2 * 1073741825≤_; omega⟩,?_⟩
    refine ⟨fun _=>⟨Int.le_refl 0,by simp⟩,[I (ai k - (aR.tdiv 540).tmod 2 * 1073741825)],⟨rf,tv⟩,cD ⟨ai k,ai k+1,((k.tdiv 252).tmod 4).tdiv 2 * 2,1+(k.tdiv 36).tmod 7⟩,rfl,?_⟩
    refine ⟨by kernel_rfl,?_⟩
    rw [mn hq]
    exact ⟨rf,tv⟩
   intro jP
   rw [mo (qf iF) (qf iM) (qf gE) (qf jP)]
   exact ⟨rf,tv⟩
end Go.Proofs.YtpbdohkbiklflaaGreatDoor
namespace Go.Proofs.YtpbdohkbiklflaaGreatDoor
open Go.TM
variable [de]
set_option maxRecDepth 100000
set_option maxHeartbeats 4000000 in
theorem LD (l:List Int) (hl:∀x∈l,Bg x) (at' tick:Int) (bad:Bool) (ha:0≤at'∧at'≤1000000) (ht:0≤tick∧tick≤1099511627776) (hc:(bu l (at'+1) 1000000).tmod 6=2) (hd:¬ ai (bu l at' 1000000)=ai ((bu l at' 1000000).tdiv 6+1+(bu l at' 1000000).tmod 6)):ct Tryz.prog 19 [eY l,I at',I tick,B bad] [gL (fp l at' tick bad)]:=by
 refine bp aG mixed (aq _) (ar _) Tryz.func19 rfl (by kernel_rfl) rfl ?_
 have Cj:=cA l at' 1000000 hl (by omega) (by omega)
 have pN:=cA l (at'+1) 1000000 hl (by omega) (by omega)
 obtain ⟨k0,k1⟩:=cY l at' 1000000 (by omega)
 obtain ⟨w0,w1⟩:=cY l (at'+1) 1000000 (by omega)
 refine .inl ⟨_,fun _=>Cj.ok,?_⟩
 unfold fp
 generalize bu l at' 1000000=k at *
 generalize bu l (at'+1) 1000000=aR at *
 obtain ⟨d6,d36,mB,gM,e6,Dd,nJ,ir,m6,NI,m7,NJ,m4,NK,n4,NL,f6,f54,f60,lW,g6,De,Df,nL,h9,NM,Cr,AZ,h3,Ja,h2,DL,i2,NN,ba,bb,cq,cH,NO,z9,z6,NP,z3,z2,cr,cI,NQ,o6,s0,xR,xS,xT,xU,xV,b3,b5,NR,NS,NT,b9,NU⟩:=tw k0 k1 w0 w1 ht
 refine .inl ⟨_,fun _=>(bz k k0).ok,?_⟩
 repeat first | refine ⟨fun _=>⟨by omega,by omega⟩,?_⟩ | refine ⟨fun _ h=>by omega,?_⟩
 refine .inl ⟨_,fun _=>(bz (k.tdiv 6+1+k.tmod 6) (by omega)).ok,?_⟩
 repeat first | refine ⟨fun _=>⟨by omega,by omega⟩,?_⟩ | refine ⟨fun _ h=>by omega,?_⟩
 refine .inl ⟨_,fun _=>pN.ok,?_⟩
 repeat first | refine ⟨fun _=>⟨by omega,by omega⟩,?_⟩ | refine ⟨fun _ h=>by omega,?_⟩
 clear e6 Dd nJ ir g6 De Df nL d6 d36 mB gM f6 f54 f60 lW
 refine And.intro (fun h=>absurd ((sB h).symm.trans hc) (by decide)) ?_
 intro c0
 have c0:=pU c0
 refine And.intro (fun h=>absurd ((sB h).symm.trans hc) (by decide)) ?_
 intro c1
 have c1:=pU c1
 refine And.intro ?_ (fun h=>absurd hc (pU h))
 intro c2
 have c2:=sB c2
 refine And.intro ?_ (fun h=>absurd c2 (pU h))
 intro _
 refine And.intro (fun h=>absurd (by simpa using h) hd) ?_
 ·intro sL
  have sL:¬ ai k=ai (k.tdiv 6+1+k.tmod 6):=by simpa using sL
  repeat refine ⟨fun _=>by assumption,?_⟩
  refine Or.inr ?_
  refine Or.inl ?_
  refine ⟨[cD ⟨ai k,ai (k.tdiv 6+1+k.tmod 6),((k.tdiv 252).tmod 4).tdiv 2 * 2,1+(k.tdiv 36).tmod 7⟩,cD ⟨ai (k.tdiv 6+1+k.tmod 6),ai k,1,1+(aR.tdiv 6).tmod 9⟩],rfl,⟨rf,rf,rf,rf,rf,rf,rf,rf,rf,rf,tv⟩,(by simp; exact ⟨rfl,rfl⟩),?_⟩
  repeat refine ⟨fun _=>by assumption,?_⟩
  refine And.intro ?_ ?_
  ·intro pO
   have pO:(aR.tdiv 54).tmod 2=1:=by simpa using pO
   have hB:dN k aR=(2,[⟨ai (k.tdiv 6+1+k.tmod 6),ai k,1,1+(aR.tdiv 6).tmod 9⟩,⟨ai k,ai (k.tdiv 6+1+k.tmod 6),((k.tdiv 252).tmod 4).tdiv 2 * 2,1+(k.tdiv 36).tmod 7⟩]):=by unfold dN; simp only; rw [if_neg (by omega),if_pos (by omega),if_neg sL,if_pos pO]
   refine ⟨fun _=>⟨by decide,by simp⟩,cD ⟨ai (k.tdiv 6+1+k.tmod 6),ai k,1,1+(aR.tdiv 6).tmod 9⟩,fun _=>rfl,?_⟩
   refine ⟨fun _=>⟨Int.le_refl 0,by simp⟩,cD ⟨ai k,ai (k.tdiv 6+1+k.tmod 6),((k.tdiv 252).tmod 4).tdiv 2 * 2,1+(k.tdiv 36).tmod 7⟩,fun _=>rfl,?_⟩
   refine Or.inr ?_
   refine Or.inl ?_
   refine ⟨[cD ⟨ai (k.tdiv 6+1+k.tmod 6),ai k,1,1+(aR.tdiv 6).tmod 9⟩,cD ⟨ai k,ai (k.tdiv 6+1+k.tmod 6),((k.tdiv 252).tmod 4).tdiv 2 * 2,1+(k.tdiv 36).tmod 7⟩],rfl,⟨rf,rf,rf,rf,rf,rf,rf,rf,rf,rf,tv⟩,(by simp; exact ⟨rfl,rfl⟩),?_⟩
   refine ⟨by kernel_rfl,?_⟩
   unfold j6; rw [hB]
   refine ⟨id,fun _=>cq,fun _=>cr,id,fun _=>z9,id,fun _ h=>ax h,?_⟩
   refine And.intro ?_ ?_
   ·intro iF
    have hq:=qt iF
    refine ⟨fun _=>cH,fun _=>cI,fun _=>z3,fun _=>s0,?_⟩
    refine ⟨fun _=>⟨Int.le_refl 0,by simp⟩,[I ((aR.tdiv 540).tmod 3 - 1)],⟨rf,tv⟩,cD ⟨ai (k.tdiv 6+1+k.tmod 6),ai k,1,1+(aR.tdiv 6).tmod 9⟩,rfl,?_⟩
    refine ⟨id,fun _=>cq,fun _=>cr,id,fun _=>z9,id,fun _ h=>ax h,?_⟩
    refine And.intro ?_ ?_
    ·intro h; exact absurd ((qt h).2.symm.trans hq.2) (by decide)
    intro _
    refine ⟨id,fun _=>cq,fun _=>cr,id,fun _=>z9,id,fun _ h=>ax h,?_⟩
    refine And.intro ?_ ?_
    ·intro h; exact absurd ((qt h).2.symm.trans hq.2) (by decide)
    intro _
    refine ⟨id,fun _=>cq,fun _=>cr,id,fun _=>z9,id,fun _ h=>ax h,?_⟩
    refine And.intro ?_ ?_
    ·intro h; exact absurd ((qt h).2.symm.trans hq.2) (by decide)
    intro _
    rw [mg hq]
    exact ⟨rf,tv⟩
   intro iF
   refine ⟨id,fun _=>cq,fun _=>cr,id,fun _=>z9,id,fun _ h=>ax h,?_⟩
   refine And.intro ?_ ?_
   ·intro iM
    have hq:=qt iM
    refine ⟨fun _=>cH,fun _=>cI,fun _=>z2,fun _=>xR,fun _=>xS,?_⟩
    refine ⟨fun _=>⟨Int.le_refl 0,by simp⟩,[I (4 - (aR.tdiv 540).tmod 2 * 5)],⟨rf,tv⟩,cD ⟨ai (k.tdiv 6+1+k.tmod 6),ai k,1,1+(aR.tdiv 6).tmod 9⟩,rfl,?_⟩
    refine ⟨id,fun _=>cq,fun _=>cr,id,fun _=>z9,id,fun _ h=>ax h,?_⟩
    refine And.intro ?_ ?_
    ·intro h; exact absurd ((qt h).2.symm.trans hq.2) (by decide)
    intro _
    refine ⟨id,fun _=>cq,fun _=>cr,id,fun _=>z9,id,fun _ h=>ax h,?_⟩
    refine And.intro ?_ ?_
    ·intro h; exact absurd ((qt h).2.symm.trans hq.2) (by decide)
    intro _
    rw [mi hq]
    exact ⟨rf,tv⟩
   intro iM
   refine ⟨id,fun _=>cq,fun _=>cr,id,fun _=>z9,id,fun _ h=>ax h,?_⟩
   refine And.intro ?_ ?_
   ·intro gE
    have hq:=qt gE
    refine ⟨fun _=>xT,fun _=>cH,fun _=>cI,fun _=>z3,fun _=>xU,?_⟩
    refine ⟨id,fun _=>cq,fun _=>cr,id,fun _=>z9,id,fun _ h=>ax h,?_⟩
    refine And.intro ?_ ?_
    ·intro h; exact absurd ((qt h).2.symm.trans hq.2) (by decide)
    intro _
    rw [mj hq]
    exact ⟨rf,tv⟩
   intro gE
   refine ⟨id,fun _=>cq,fun _=>cr,id,fun _=>z9,id,fun _ h=>ax h,?_⟩
   refine And.intro ?_ ?_
   ·intro jP
    have hq:=qt jP
    skip
    refine ⟨fun _=>⟨Int.le_refl 0,by simp⟩,cD ⟨ai (k.tdiv 6+1+k.tmod 6),ai k,1,1+(aR.tdiv 6).tmod 9⟩,fun _=>rfl,?_⟩
    refine ⟨fun _=>cH,fun _=>cI,fun _=>z2,fun _=>xV,fun _=>⟨by show _≤ai (k.tdiv 6+1+k.tmod 6) - (aR.tdiv 540).tmod 2 * 1073741825; omega,by show ai (k.tdiv 6+1+k.tmod 6) - (aR.tdiv 540).tmod 2 * 1073741825≤_; omega⟩,?_⟩
    refine ⟨fun _=>⟨Int.le_refl 0,by simp⟩,[I (ai (k.tdiv 6+1+k.tmod 6) - (aR.tdiv 540).tmod 2 * 1073741825)],⟨rf,tv⟩,cD ⟨ai (k.tdiv 6+1+k.tmod 6),ai k,1,1+(aR.tdiv 6).tmod 9⟩,rfl,?_⟩
    refine ⟨by kernel_rfl,?_⟩
    rw [mn hq]
    exact ⟨rf,tv⟩
   intro jP
   rw [mo (qf iF) (qf iM) (qf gE) (qf jP)]
   exact ⟨rf,tv⟩
  ·intro pO
   have pO:¬ (aR.tdiv 54).tmod 2=1:=by simpa using pO
   have hB:dN k aR=(2,[⟨ai k,ai (k.tdiv 6+1+k.tmod 6),((k.tdiv 252).tmod 4).tdiv 2 * 2,1+(k.tdiv 36).tmod 7⟩,⟨ai (k.tdiv 6+1+k.tmod 6),ai k,1,1+(aR.tdiv 6).tmod 9⟩]):=by unfold dN; simp only; rw [if_neg (by omega),if_pos (by omega),if_neg sL,if_neg pO]
   unfold j6; rw [hB]
   refine ⟨id,fun _=>cq,fun _=>cr,id,fun _=>z9,id,fun _ h=>ax h,?_⟩
   refine And.intro ?_ ?_
   ·intro iF
    have hq:=qt iF
    refine ⟨fun _=>cH,fun _=>cI,fun _=>z3,fun _=>s0,?_⟩
    refine ⟨fun _=>⟨Int.le_refl 0,by simp⟩,[I ((aR.tdiv 540).tmod 3 - 1)],⟨rf,tv⟩,cD ⟨ai k,ai (k.tdiv 6+1+k.tmod 6),((k.tdiv 252).tmod 4).tdiv 2 * 2,1+(k.tdiv 36).tmod 7⟩,rfl,?_⟩
    refine ⟨id,fun _=>cq,fun _=>cr,id,fun _=>z9,id,fun _ h=>ax h,?_⟩
    refine And.intro ?_ ?_
    ·intro h; exact absurd ((qt h).2.symm.trans hq.2) (by decide)
    intro _
    refine ⟨id,fun _=>cq,fun _=>cr,id,fun _=>z9,id,fun _ h=>ax h,?_⟩
    refine And.intro ?_ ?_
    ·intro h; exact absurd ((qt h).2.symm.trans hq.2) (by decide)
    intro _
    refine ⟨id,fun _=>cq,fun _=>cr,id,fun _=>z9,id,fun _ h=>ax h,?_⟩
    refine And.intro ?_ ?_
    ·intro h; exact absurd ((qt h).2.symm.trans hq.2) (by decide)
    intro _
    rw [mg hq]
    exact ⟨rf,tv⟩
   intro iF
   refine ⟨id,fun _=>cq,fun _=>cr,id,fun _=>z9,id,fun _ h=>ax h,?_⟩
   refine And.intro ?_ ?_
   ·intro iM
    have hq:=qt iM
    refine ⟨fun _=>cH,fun _=>cI,fun _=>z2,fun _=>xR,fun _=>xS,?_⟩
    refine ⟨fun _=>⟨Int.le_refl 0,by simp⟩,[I (4 - (aR.tdiv 540).tmod 2 * 5)],⟨rf,tv⟩,cD ⟨ai k,ai (k.tdiv 6+1+k.tmod 6),((k.tdiv 252).tmod 4).tdiv 2 * 2,1+(k.tdiv 36).tmod 7⟩,rfl,?_⟩
    refine ⟨id,fun _=>cq,fun _=>cr,id,fun _=>z9,id,fun _ h=>ax h,?_⟩
    refine And.intro ?_ ?_
    ·intro h; exact absurd ((qt h).2.symm.trans hq.2) (by decide)
    intro _
    refine ⟨id,fun _=>cq,fun _=>cr,id,fun _=>z9,id,fun _ h=>ax h,?_⟩
    refine And.intro ?_ ?_
    ·intro h; exact absurd ((qt h).2.symm.trans hq.2) (by decide)
    intro _
    rw [mi hq]
    exact ⟨rf,tv⟩
   intro iM
   refine ⟨id,fun _=>cq,fun _=>cr,id,fun _=>z9,id,fun _ h=>ax h,?_⟩
   refine And.intro ?_ ?_
   ·intro gE
    have hq:=qt gE
    refine ⟨fun _=>xT,fun _=>cH,fun _=>cI,fun _=>z3,fun _=>xU,?_⟩
    refine ⟨id,fun _=>cq,fun _=>cr,id,fun _=>z9,id,fun _ h=>ax h,?_⟩
    refine And.intro ?_ ?_
    ·intro h; exact absurd ((qt h).2.symm.trans hq.2) (by decide)
    intro _
    rw [mj hq]
    exact ⟨rf,tv⟩
   intro gE
   refine ⟨id,fun _=>cq,fun _=>cr,id,fun _=>z9,id,fun _ h=>ax h,?_⟩
   refine And.intro ?_ ?_
   ·intro jP
    have hq:=qt jP
    skip
    refine ⟨fun _=>⟨Int.le_refl 0,by simp⟩,cD ⟨ai k,ai (k.tdiv 6+1+k.tmod 6),((k.tdiv 252).tmod 4).tdiv 2 * 2,1+(k.tdiv 36).tmod 7⟩,fun _=>rfl,?_⟩
    refine ⟨fun _=>cH,fun _=>cI,fun _=>z2,fun _=>xV,fun _=>⟨by show _≤ai k - (aR.tdiv 540).tmod 2 * 1073741825; omega,by show ai k - (aR.tdiv 540).tmod 2 * 1073741825≤_; omega⟩,?_⟩
    refine ⟨fun _=>⟨Int.le_refl 0,by simp⟩,[I (ai k - (aR.tdiv 540).tmod 2 * 1073741825)],⟨rf,tv⟩,cD ⟨ai k,ai (k.tdiv 6+1+k.tmod 6),((k.tdiv 252).tmod 4).tdiv 2 * 2,1+(k.tdiv 36).tmod 7⟩,rfl,?_⟩
    refine ⟨by kernel_rfl,?_⟩
    rw [mn hq]
    exact ⟨rf,tv⟩
   intro jP
   rw [mo (qf iF) (qf iM) (qf gE) (qf jP)]
   exact ⟨rf,tv⟩
end Go.Proofs.YtpbdohkbiklflaaGreatDoor
