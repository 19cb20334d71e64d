/- ObjectWear: for every input the law returns true. The card: the lexer's table is as the program's text lays it. -/
import Derived.Test.YtpjpdomkcabfcaaDoorK1M18
import Derived.Test.YtpjpdomkcabfcaaDoorCards
import Derived.Test.YtpjpdomkcabfcaaDoorTie
import Derived.WalkKit
import Derived.ProofKit
import Derived.OpenShut
import Derived.JoinedCond
import Derived.Carry
import Derived.ChangeSlices
import Derived.Deep.DeepHandedRow
import Derived.Lib.LaidTab
set_option linter.unusedVariables false
set_option linter.unusedSimpArgs false
set_option linter.unusedSectionVars false
namespace Go.Proofs.YtpjpdomkcabfcaaDoor
open Go.TM Go.ChangeShapes Go.WideShapes Go.ChangeAt Go.RowKit
theorem own:ownKnob Tryd.prog.godebug=none:=by kernel_rfl
theorem laidOut:laidOutB Tryd.prog=true:=by kernel_rfl
theorem in_i64 {n:Int} (h:(Lit.int .i64 n).wf=true):InI n:=by simpa [InI,Lit.wf,IntKind.min,IntKind.max,IntKind.signed,IntKind.bits] using h
theorem ints_of {H:Type} {enc:TypeId × Value→H} {W:World} {v:Value} {d:DataW H} {p:List MemPlace} (hv:∃a len cap,v=.slice a len cap) (h:DataW.Trod enc Tryd.prog W 0 (fun _=>true) true 22 v d p) :
  ∃zs:List Int,DRel (fun b=>W.heap[b]?) (Ints zs) v∧∀x,x∈zs→InI x:=by
 obtain ⟨fuel,h⟩:=h
 obtain ⟨a0,l0,c0,rfl⟩:=hv
 rcases open_ints Tryd.underlying22 Tryd.underlying3 (by kernel_rfl) h with ⟨h1,-⟩ | ⟨a,len,cap,zs,h1,h2,h3,h4,h5,h6,h7,h8⟩
 ·simp [Value.cells] at h1
  obtain ⟨rfl,rfl,rfl⟩:=h1
  exact ⟨[],.slnil 1,fun x hx=>by simp at hx⟩
 ·simp [Value.cells] at h1
  obtain ⟨rfl,rfl,rfl⟩:=h1
  simp only [if_true] at h5
  have hlen:((zs.take l0).map I).length=l0:=by simp; omega
  refine ⟨zs.take l0,?_,fun x hx=>in_i64 (h8 x (List.mem_of_mem_take hx))⟩
  ·have hd:=DRel.sl (M:=fun b=>W.heap[b]?) 1 ((zs.take l0).map I) a c0 (fun i _=>.int .i64 (zs.getD i 0)) (by rw [hlen]; exact h3) (fun x hx=>by
    obtain ⟨n,-,rfl⟩:=List.mem_map.1 hx
    exact ⟨rfl,fun d hd=>by simp only [DV.cells,List.mem_singleton] at hd; subst hd; rfl⟩) (fun i j hi hj=>by
    have hj0:j=0:=by omega
    subst hj0
    rw [hlen] at hi
    have:=h7 i (by omega)
    rw [Nat.mul_one,Nat.add_zero]
    exact this) (fun i x j d hx hd=>by
    have hi:i<l0:=by
     have:=(List.getElem?_eq_some_iff.1 hx).1
     rw [hlen] at this; exact this
    rw [List.getElem?_map,List.getElem?_take_of_lt hi,List.getElem?_eq_getElem (by omega)] at hx
    simp only [Option.map_some,Option.some.injEq] at hx
    subst hx
    match j,hd with
    | 0,hd =>
     simp only [DV.cells,List.getElem?_cons_zero,Option.some.injEq] at hd
     subst hd
     have e:zs.getD i 0=zs[i]'(by omega):=by simp [List.getD,List.getElem?_eq_getElem (show i<zs.length by omega)]
     rw [e]
     exact .int .i64 _
    | j+1,hd=>simp [DV.cells] at hd)
   rw [hlen] at hd
   exact hd
theorem kinds_of {W:World} (h:laidMetH Tryd.prog [("worldmint/lexer.kinds",Rows.laid_worldmint_lexer_kinds)] W):∃(ty:TypeId) (fr:Nat × Nat),W.heap[2]?=some (.cells kArr ty fr):=by
 have ht:Lib.TabIs Tryd.prog W "worldmint/lexer.kinds" .u8 (kindL.map fun n=>((n:Nat):Int)) :=
  Lib.tabIs_of_head (rest:=[]) (g:=2) (t:=145) (e:=5) (n:=128) (by kernel_rfl) (by kernel_rfl) Tryd.underlying145 Tryd.underlying5 (by kernel_rfl) (by kernel_rfl) h
 have hg:Tryd.prog.globalNamed "worldmint/lexer.kinds"=some 2:=by kernel_rfl
 unfold Lib.TabIs World.var? at ht
 rw [hg] at ht
 simp only [Option.bind_some] at ht
 split at ht
 ·rename_i cs ty fr hh
  injection ht with ht
  refine ⟨ty,fr,?_⟩
  rw [hh,ht]
  simp only [kArr,List.map_map]
  rfl
 ·cases ht
def laidW (w:World):World:={ w with heap:=w.heap.modify 2 fun
  | .cells _ t frozen=>.cells kArr t frozen
  | o=>o }
theorem laid_met (os:Os):laidMet Tryd.prog Rows.objectWearRow.laid ((laidW (World.holding Tryd.prog os ⟨#[],#[],[]⟩)).forCall (fun _ _=>0) ⟨#[],#[.int .i64 0,.slice none 0 0],[]⟩).memory :=
 laidMet_of_run' 8 (by kernel_rfl) (by kernel_rfl)
theorem reads (os:Os) {H:Type} (enc:TypeId × Value→H):∃places,DataW.whole enc Tryd.prog ((laidW (World.holding Tryd.prog os ⟨#[],#[],[]⟩)).forCall (fun _ _=>0) ⟨#[],#[.int .i64 0,.slice none 0 0],[]⟩).memory Tryd.f3.params.toList Rows.objectWearSpec.vars false #[Value.int .i64 0,.slice none 0 0].toList 8=some ([.lit (.int .i64 0),.nil],[],places) :=
 ⟨[],by kernel_rfl⟩
set_option maxRecDepth 100000 in
theorem contract (H:Type) (enc:TypeId × Value→H) (W:World) (base:Nat) (args:Array Value) (ds gs:List (DataW H)) (before:List MemPlace)
  (hval:∀(j:Nat) t v,Tryd.f3.params[j]?=some t→args[j]?=some v→Value.okWide Tryd.prog W .any base t v)
  (hW:DataW.Whole enc Tryd.prog Tryd.f3.params.toList Rows.objectWearSpec.vars false W args.toList ds gs before) (hL:laidMetH Tryd.prog Rows.objectWearRow.laid W) :
  Calls Tryd.prog 3 args W fun e W'=>∃v,e=.returned v∧Rows.objectWearSpec.post enc Tryd.prog Tryd.f3 false true false false W args v W':=by
 have hW':=hW
 obtain ⟨p,q,hA0,hV,rfl,hfz,hnd⟩:=hW
 have hA:DataW.TrodAll enc Tryd.prog W 0 (fun _=>true) true Tryd.f3.params.toList args.toList ds p:=hA0
 rw [Tryd.params3] at hA hval
 obtain ⟨v0,vs0,d0,ds0,p0,q0,hargs,rfl,rfl,h0,r0⟩:=trodAll_cons hA
 obtain ⟨v1,vs1,d1,ds1,p1,q1,rfl,rfl,rfl,h1,r1⟩:=trodAll_cons r0
 obtain ⟨rfl,rfl,rfl⟩:=trodAll_nil r1
 obtain rfl:args=#[v0,v1]:=by cases args; simp_all
 obtain ⟨rfl,rfl⟩:=trodVars_none hV
 have hs1:=okWide_slice Tryd.underlying22 (hval 1 22 v1 rfl rfl)
 obtain ⟨zs,hz,-⟩:=ints_of hs1 h1
 obtain ⟨a,rfl,rfl,rfl,wa⟩:=open_int Tryd.underlying3 (hval 0 3 v0 rfl rfl) h0
 clear hA0
 simp only [List.append_nil,List.nil_append] at hW'
 have hlt:∀x,x∈p1→x.block<W.heap.size:=fun x hx=>hW'.lt x hx
 have hrel:DRels (fun b=>W.heap[b]?) [I a,Ints zs] [.int .i64 a,v1]:=by
  refine ⟨rfl,fun j d v hd hv=>?_⟩
  match j,hd,hv with
  | 0,hd,hv=>simp at hd hv; subst hd; subst hv; exact .int _ _
  | 1,hd,hv=>simp at hd hv; subst hd; subst hv; exact hz
  | j+2,hd,hv=>simp at hd
 obtain ⟨ty,fr,hk⟩:=kinds_of hL
 letI:KObj:=⟨ty,fr⟩
 have hgl:GlobIn (fun b=>W.heap[b]?):=by
  intro j o hj
  have hj:kObj j=some o:=hj
  unfold kObj at hj
  cases hb:Nat.beq j 2 with
  | false=>rw [hb] at hj; cases hj
  | true =>
   rw [hb] at hj
   have:=Nat.eq_of_beq_eq_true hb
   subst this
   exact hk.trans hj
 have hcall:=(wear_spec a zs).2 W (fun b=>W.heap[b]?) _ (fun _ _ h=>h) hgl hrel
 refine Calls.mono hcall fun e W' ⟨v,M',he,hb,hle,hin,hsame,hres⟩=>?_
 subst he
 have hvt:v=.bool true:=by
  have hres:DRel M' (B true) v:=hres
  cases hres with | bool=>rfl
 subst hvt
 exact ⟨_,rfl,[_,d1],[],p1,[],p1,[],hW',trodAll_mk1 (shut_bool Tryd.underlying4 _),(by
   have h4:=trodAll_mk2 (shut_int Tryd.underlying3 wa) (Below.trod laidOut (by kernel_rfl) (by decide +kernel) h1 hb hlt)
   simp only [List.append_nil,List.nil_append] at h4
   exact h4),rfl,hb.frame _,fun h=>by cases h⟩
set_option maxRecDepth 100000 in
theorem lifted (os:Os) (started:os.Started) (H:Type) (enc:TypeId × Value→H) (F:Stop.Interp) :
  ReturnsInHanded {} Tryd.checked os 3 .any ((OpenSpec.ofChange Rows.objectWearSpec).preRow enc Tryd.prog Tryd.f3 Rows.objectWearRow.domain false Rows.objectWearRow.laid) (((OpenSpec.ofChange Rows.objectWearSpec).at F).post enc Tryd.prog Tryd.f3 false true false false):=by
 obtain ⟨places,hx⟩:=reads os enc
 refine returnsInHanded_of_row (C:=Tryd.checked) (s:=OpenSpec.ofChange Rows.objectWearSpec) own started (by kernel_rfl) Tryd.func3
  (witness_row_at (enc:=enc) (C:=Tryd.checked) false (laidW (World.holding Tryd.prog os ⟨#[],#[],[]⟩)) #[.int .i64 0,.slice none 0 0] rfl (by kernel_rfl) (by kernel_rfl) (by kernel_rfl)
   (OpenSpec.preRow_of_cond 8 hx (by kernel_rfl) (fun k hk=>by cases hk) (by kernel_rfl) (laid_met os))) ?_
 intro W base args ds gs before hval hW _ _ _ hL _ _
 exact contract H enc W base args ds gs before hval hW hL
theorem said:Rows.ObjectWearSaid :=
 OpenClaim.holds_of_cond 3 Tryd.f3 rfl rfl rfl rfl rfl rfl rfl ⟨rfl,rfl,rfl,rfl,rfl⟩ rfl rfl rfl rfl rfl (by kernel_rfl) Tryd.func3 (by kernel_rfl)
  (of_decide_eq_true (by kernel_rfl)) (by unfold Func.isWrapper; first | (rw [if_pos (by decide +kernel)]; kernel_rfl) | (rw [if_neg (by decide +kernel)]; exact ⟨rfl,rfl⟩))
  (fun os started H enc _ F=>by rw [OpenClaim.pre_eq_preRow]; exact lifted os started H enc F)
theorem plain (f:FuncId) (fn:Func) (hf:Tryd.pinned.checked.prog.funcNamed "worldmint/worldmintlaw17.ObjectWear"=some f) (hfn:Tryd.pinned.checked.prog.funcs[f]?=some fn) :
  false=Tryd.pinned.checked.prog.looks []∧∀(j:Nat) t,fn.params[j]?=some t→Tryd.pinned.checked.prog.wantsStandIn t=false:=by
 obtain rfl:f=3:=Option.some.inj ((show Tryd.prog.funcNamed "worldmint/worldmintlaw17.ObjectWear"=some 3 by kernel_rfl).symm.trans hf) |>.symm
 obtain rfl:fn=Tryd.f3:=(Option.some.inj (Tryd.func3.symm.trans hfn)).symm
 refine ⟨by kernel_rfl,fun j t ht=>?_⟩
 rw [Tryd.params3] at ht
 match j,ht with
 | 0,ht=>simp at ht; subst ht; exact (show Tryd.prog.wantsStandIn 3=false by kernel_rfl)
 | 1,ht=>simp at ht; subst ht; exact (show Tryd.prog.wantsStandIn 22=false by kernel_rfl)
 | j+2,ht=>simp at ht
theorem wear_proved:Rows.ObjectWearCardSaid :=
 Claim7.holds_tied_plain_at .later [] _ _ _ _ said (fun _ h=>by cases h) (by kernel_rfl) (fun _ h=>by cases h) objectWear_row_tie rfl ⟨rfl,rfl⟩ (by kernel_rfl) rfl plain (by kernel_rfl)
end Go.Proofs.YtpjpdomkcabfcaaDoor
