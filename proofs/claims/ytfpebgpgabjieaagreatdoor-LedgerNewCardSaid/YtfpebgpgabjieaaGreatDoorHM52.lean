import Derived.Test.YtfpebgpgabjieaaGreatDoorHM40
import Derived.Test.YtfpebgpgabjieaaGreatDoorHM41
import Derived.Test.YtfpebgpgabjieaaGreatDoorHM42
import Derived.Test.YtfpebgpgabjieaaGreatDoorHM43
import Derived.Test.YtfpebgpgabjieaaGreatDoorHM44
import Derived.Test.YtfpebgpgabjieaaGreatDoorHM45
import Derived.Test.YtfpebgpgabjieaaGreatDoorHM46
import Derived.Test.YtfpebgpgabjieaaGreatDoorHM47
import Derived.Test.YtfpebgpgabjieaaGreatDoorHM48
import Derived.Test.YtfpebgpgabjieaaGreatDoorHM50
import Derived.Test.YtfpebgpgabjieaaGreatDoorHM51
import Derived.Test.YtfpebgpgabjieaaGreatDoorHM18
import Derived.Test.YtfpebgpgabjieaaGreatDoorCards
import Derived.Test.YtfpebgpgabjieaaGreatDoorTie
import Derived.WalkKit
import Derived.ProofKit
import Derived.OpenShut
import Derived.JoinedCond
import Derived.Carry
import Derived.ChangeSlices
import Derived.Deep.DeepHandedRow
import Derived.Lib.LaidTab
set_option linter.all false
namespace Go.Proofs.YtfpebgpgabjieaaGreatDoor
section
open Go.TM
variable [aW]
theorem Nd(sh b5 n:Int)(s:ByteArray):ai Tryz.prog 4 [I sh,I b5,I n,.str s] [B true]:=by
 obtain⟨k,hk,oR⟩:∃k:Nat,c9 n 5=k/\k<5:=⟨(c9 n 5).toNat,by have:=qx n 5 (by omega);omega,by have:=qx n 5 (by omega);omega⟩
 obtain⟨w,hw,hw6⟩:∃k:Nat,c9 b5 6=k/\k<6:=⟨(c9 b5 6).toNat,by have:=qx b5 6 (by omega);omega,by have:=qx b5 6 (by omega);omega⟩
 rcases(by omega:w=0\/w=1\/w=2\/w=3\/w=4\/w=5)with rfl|rfl|rfl|rfl|rfl|rfl
 ·exact acw sh b5 n s k hk oR hw ⟨Vd,RE,fun _=>Ve⟩
 ·have hv:=FM s
  have hr:=C4 s
  have hc:=HQ s
  have h3:vN s=0\/vN s=6\/vN s=8:=by unfold vN;repeat' split<;>simp
  rcases h3 with h|h|h<;>rw[h]at hv hr
  ·exact abu sh b5 n s k hk oR hw ⟨hv,hr,fun _=>hc⟩
  ·exact abv sh b5 n s k hk oR hw ⟨hv,hr,fun _=>hc⟩
  ·exact abw sh b5 n s k hk oR hw ⟨hv,hr,fun _=>hc⟩
 ·refine acy sh b5 n s k hk oR hw ?_
  rcases(by omega:k=0\/k=1\/k=2\/k=3\/k=4)with rfl|rfl|rfl|rfl|rfl
  ·exact⟨RF,MW,fun _=>RH⟩
  ·exact⟨RI,MX,fun _=>RJ⟩
  ·exact⟨RK,MY,fun _=>RN⟩
  ·exact⟨RO,MZ,fun _=>RP⟩
  ·exact⟨RQ,M0,fun _=>RR⟩
 ·rcases(by omega:k=0\/k=1\/k=2\/k=3\/k=4)with rfl|rfl|rfl|rfl|rfl
  ·exact KU sh b5 n s 0 hk oR hw ⟨R5,M3,fun _=>R6⟩ (by decide)
  ·exact KU sh b5 n s 1 hk oR hw ⟨R7,M4,fun _=>R8⟩ (by decide)
  ·exact KU sh b5 n s 2 hk oR hw ⟨R9,M5,fun _=>Sa⟩ (by decide)
  ·exact KU sh b5 n s 3 hk oR hw ⟨Sb,M6,fun _=>Sc⟩ (by decide)
  ·exact abx sh b5 n s 4 hk oR hw ⟨Sd,M7,fun h=>absurd h (by decide)⟩ rfl
 ·refine acz sh b5 n s k hk oR hw ?_
  rcases(by omega:k=0\/k=1\/k=2\/k=3\/k=4)with rfl|rfl|rfl|rfl|rfl
  ·exact⟨Se,M8,fun h=>absurd h (by decide)⟩
  ·exact⟨Sf,M9,fun h=>absurd h (by decide)⟩
  ·exact⟨Sg,Na,fun h=>absurd h (by decide)⟩
  ·exact⟨Sh,Nb,fun h=>absurd h (by decide)⟩
  ·exact⟨Si,Nc,fun h=>absurd h (by decide)⟩
 ·exact acx sh b5 n s k hk oR hw ⟨dL,E8,fun _=>b9⟩
end
section
open Go.TM Go.ChangeShapes Go.WideShapes Go.ChangeAt Go.RowKit
theorem own:ownKnob Tryz.prog.godebug=none:=by kernel_rfl
theorem Sj{W:World}(h:laidMetH Tryz.prog [("worldmint/lexer.kinds",Rows.laid_worldmint_lexer_kinds)] W):∃(ty:TypeId) (fr:Nat×Nat),W.heap[0]?=some (.cells LL ty fr):=by
 have ht:Lib.TabIs Tryz.prog W "worldmint/lexer.kinds" .u8 (jY.map fun n=>((n:Nat):Int)):=
  Lib.tabIs_of_head (rest:=[]) (g:=0) (t:=320) (e:=5) (n:=128) (by kernel_rfl) (by kernel_rfl) Tryz.underlying320 Tryz.underlying5 (by kernel_rfl) (by kernel_rfl) h
 have hg:Tryz.prog.globalNamed "worldmint/lexer.kinds"=some 0:=by kernel_rfl
 unfold Lib.TabIs World.var? at ht
 rw[hg]at ht
 simp only[Option.bind_some]at ht
 split at ht
 ·rename_i cs ty fr hh
  injection ht with ht
  refine⟨ty,fr,?_⟩
  rw[hh,ht]
  simp only[LL,List.map_map]
  rfl
 ·cases ht
def Sk(w:World):World:={ w with heap:=w.heap.modify 0 fun
 |.cells _ t frozen=>.cells LL t frozen
 |o=>o }
end
end Go.Proofs.YtfpebgpgabjieaaGreatDoor
