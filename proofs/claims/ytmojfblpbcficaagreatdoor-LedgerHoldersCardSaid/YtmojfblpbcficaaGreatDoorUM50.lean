import Derived.Test.YtmojfblpbcficaaGreatDoorUM43
import Derived.Test.YtmojfblpbcficaaGreatDoorUM46
import Derived.Test.YtmojfblpbcficaaGreatDoorUM49
set_option linter.all false
namespace Go.Proofs.YtmojfblpbcficaaGreatDoor
section
open Go.TM
theorem U2(R:RL)(n:List Int)(p:Int):∀m∈(qo R n p).mv,m.to<=5:=by
 have b1:=gC n (p+1) 4 (by omega)
 have b2:=gC n (p+2) 4 (by omega)
 have ha:YE n p<=5:=by unfold YE;omega
 have hb:ZG n p<=5:=by unfold ZG;split<;>omega
 unfold qo
 generalize YE n p=a at*
 generalize ZG n p=b at*
 intro m hm
 repeat' split at hm
 all_goals simp only[tX,adp,List.mem_nil_iff,or_false,adr,vq,vt,adK]at hm
 all_goals grind
theorem Wl(n:List Int)(p:Int)(fl:List eS):∀i,∀m∈Cd fl n p i,m.to<=5
 |0,m,hm=>by cases hm
 |i+1,m,hm=>by
  have ih:=Wl n p fl i
  have b:=gC n (p+4) 4 (by omega)
  rw[Cd]at hm
  split at hm
  ·split at hm
   ·rename_i f _
    cases hc:Wc n p i f with
    |true=>rw[hc,cond_true,ado]at hm;subst hm;simp only[J0];omega
    |false=>rw[hc]at hm;cases hm
   ·cases hm
  ·rename_i h;rw[<-h]at hm;exact ih m hm
theorem YX(R:RL)(n k:List Int)(i:Nat):∀m∈(Ek R n k i).mv,m.to<=5:=by
 intro m hm
 unfold Ek at hm
 split at hm
 ·unfold oK at hm
  split at hm
  ·exact Wl n _ R.fl _ m hm
  ·have b:=gC n (6*i+5) 4 (by omega)
   have hm:m∈SU R n (6*i):=hm
   unfold SU at hm
   split at hm
   ·cases hm
   ·split at hm
    ·cases hm
    ·rw[ado]at hm;subst hm;simp only[vE];split<;>omega
 ·exact U2 R n _ m hm
end
section
open Go.TM
variable [bp]
theorem Er(hLv:aN Tryz.prog 12 [] [B true])(n k:List Int):aN Tryz.prog 5 [Ints n,Ints k] [B true]:=by
 obtain⟨P,R,hF,hs⟩:=Hq (J:=fun R=>Cons R/\Hd R) (A:=fun s=>∀m∈s.mv,m.to<=5) ⟨⟨fun _=>rfl,nofun⟩,hd0⟩ (fun P R s h jv hs ha h0 hC=>by
  have hl:R.fl.length+s.mv.length<=160:=by have:=hs.len;have:=h.ZE;omega
  exact⟨NP h.fj h.dx hC.1 hl hs h0,UY h.fj h.dx hl hs ha h0 hC.2⟩) n k fun R i=>YX R n k i
 exact Kf hF.inv (abL hF.inv hF.j.1 hF.j.2 (by have:=hF.inv.ZE;have:=hF.sp;omega)) hLv n k hs
end
end Go.Proofs.YtmojfblpbcficaaGreatDoor
