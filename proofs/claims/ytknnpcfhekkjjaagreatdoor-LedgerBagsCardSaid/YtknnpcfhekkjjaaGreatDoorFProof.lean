/- LedgerBags: for every input the law returns true. The card: the lexer's table is as the program's text lays it. -/
import Derived.Test.YtknnpcfhekkjjaaGreatDoorFM41
set_option linter.all false
namespace Go.Proofs.YtknnpcfhekkjjaaGreatDoor
set_option maxRecDepth 100000
open Go.TM Go.ChangeShapes Go.WideShapes Go.ChangeAt Go.RowKit
theorem I5[bG](n k:List Int)(_:∀x,x∈n->vU x)(_:∀x,x∈k->vU x):aI Tryz.prog 4 [Ints n,Ints k] [B true]:=Mu IT n k
theorem Q1(os:Os):laidMet Tryz.prog Rows.ledgerBagsRow.laid ((QK (World.holding Tryz.prog os ⟨#[],#[],[]⟩)).forCall (fun _ _=>0) ⟨#[],#[.slice none 0 0,.slice none 0 0],[]⟩).memory:=
 laidMet_of_run' 8 (by kernel_rfl) (by kernel_rfl)
theorem reads(os:Os){H:Type}(enc:TypeId×Value->H):∃places,DataW.whole enc Tryz.prog ((QK (World.holding Tryz.prog os ⟨#[],#[],[]⟩)).forCall (fun _ _=>0) ⟨#[],#[.slice none 0 0,.slice none 0 0],[]⟩).memory Tryz.f4.params.toList Rows.ledgerBagsSpec.vars false #[Value.slice none 0 0,.slice none 0 0].toList 8=some ([.nil,.nil],[],places):=
 ⟨[],by kernel_rfl⟩
theorem Q2(H:Type)(enc:TypeId×Value->H)(W:World)(base:Nat)(args:Array Value)(ds gs:List (DataW H))(before:List MemPlace)
 (tZ:∀(j:Nat) t v,Tryz.f4.params[j]?=some t->args[j]?=some v->Value.okWide Tryz.prog W .any base t v)
 (hW:DataW.Whole enc Tryz.prog Tryz.f4.params.toList Rows.ledgerBagsSpec.vars false W args.toList ds gs before) (hL:laidMetH Tryz.prog Rows.ledgerBagsRow.laid W):
 Calls Tryz.prog 4 args W fun e W'=>∃v,e=.returned v/\Rows.ledgerBagsSpec.post enc Tryz.prog Tryz.f4 false true false false W args v W':=by
 have hW':=hW
 obtain⟨p,q,hA0,hV,rfl,lD,dj⟩:=hW
 have hA:DataW.TrodAll enc Tryz.prog W 0 (fun _=>true) true Tryz.f4.params.toList args.toList ds p:=hA0
 rw[Tryz.params4]at hA tZ
 obtain⟨v0,vs0,d0,ds0,p0,q0,bN,rfl,rfl,h0,r0⟩:=trodAll_cons hA
 obtain⟨v1,vs1,d1,ds1,p1,q1,rfl,rfl,rfl,h1,r1⟩:=trodAll_cons r0
 obtain⟨rfl,rfl,rfl⟩:=trodAll_nil r1
 obtain rfl:args=#[v0,v1]:=by cases args;simp_all
 obtain⟨rfl,rfl⟩:=trodVars_none hV
 have ZT:=okWide_slice Tryz.underlying40 (tZ 0 40 v0 rfl rfl)
 obtain⟨zs0,hz0,hy0⟩:=Kv ZT h0
 have iY:=okWide_slice Tryz.underlying40 (tZ 1 40 v1 rfl rfl)
 obtain⟨zs1,hz1,hy1⟩:=Kv iY h1
 clear hA0
 simp only[List.append_nil,List.nil_append]at hW'
 have abj:∀x,x∈p0->x.block<W.heap.size:=fun x hx=>hW'.lt x (abQ.2 (.inl hx))
 have Qk:∀x,x∈p1->x.block<W.heap.size:=fun x hx=>hW'.lt x (abQ.2 (.inr hx))
 have hrel:fI (fun b=>W.heap[b]?) [Ints zs0,Ints zs1] [v0,v1]:=by
  refine⟨rfl,fun j d v hd hv=>?_⟩
  match j,hd,hv with
  |0,hd,hv=>simp at hd hv;subst hd;subst hv;exact hz0
  |1,hd,hv=>simp at hd hv;subst hd;subst hv;exact hz1
  |j+2,hd,hv=>simp at hd
 obtain⟨ty,fr,hk⟩:=QJ hL
 letI:bG:=⟨ty,fr⟩
 have nF:nj (fun b=>W.heap[b]?):=by
  intro j o hj
  have hj:O4 j=some o:=hj
  unfold O4 at hj
  cases hb:Nat.beq j 0 with
  |false=>rw[hb]at hj;cases hj
  |true=>
   rw[hb]at hj
   have:=abL hb
   subst this
   exact hk.trans hj
 have jD:=(I5 zs0 zs1 hy0 hy1).2 W (fun b=>W.heap[b]?) _ (fun _ _ h=>h) nF hrel
 refine Calls.mono jD fun e W' ⟨v,M',he,hb,hle,dX,ow,je⟩=>?_
 subst he
 have VW:v=.bool true:=by
  have je:bu M' (B true) v:=je
  cases je with|bool=>rfl
 subst VW
 exact⟨_,rfl,[d0,d1],[],p0++p1,[],p0++p1,[],hW',trodAll_mk1 (shut_bool Tryz.underlying4 _),(by
  have h4:=trodAll_cons_mk (Below.trod laidOut (by kernel_rfl) (by decide+kernel) h0 hb abj) (trodAll_cons_mk (Below.trod laidOut (by kernel_rfl) (by decide+kernel) h1 hb Qk) trodAll_mk0)
  simp only[List.append_nil,List.nil_append]at h4
  exact h4),rfl,hb.frame _,fun h=>by cases h⟩
theorem lifted(os:Os)(started:os.Started)(H:Type)(enc:TypeId×Value->H)(F:Stop.Interp):
 ReturnsInHanded {} Tryz.checked os 4 .any ((OpenSpec.ofChange Rows.ledgerBagsSpec).preRow enc Tryz.prog Tryz.f4 Rows.ledgerBagsRow.domain false Rows.ledgerBagsRow.laid) (((OpenSpec.ofChange Rows.ledgerBagsSpec).at F).post enc Tryz.prog Tryz.f4 false true false false):=by
 obtain⟨places,hx⟩:=reads os enc
 refine returnsInHanded_of_row (C:=Tryz.checked) (s:=OpenSpec.ofChange Rows.ledgerBagsSpec) own started (by kernel_rfl) Tryz.func4
  (witness_row_at (enc:=enc) (C:=Tryz.checked) false (QK (World.holding Tryz.prog os ⟨#[],#[],[]⟩)) #[.slice none 0 0,.slice none 0 0] rfl (by kernel_rfl) (by kernel_rfl) (by kernel_rfl)
   (OpenSpec.preRow_of_cond 8 hx (by kernel_rfl) (fun k hk=>by cases hk) (by kernel_rfl) (Q1 os))) ?_
 intro W base args ds gs before tZ hW _ _ _ hL _ _
 exact Q2 H enc W base args ds gs before tZ hW hL
theorem said:Rows.LedgerBagsSaid:=
 OpenClaim.holds_of_cond 4 Tryz.f4 rfl rfl rfl rfl rfl rfl rfl ⟨rfl,rfl,rfl,rfl,rfl⟩ rfl rfl rfl rfl rfl (by kernel_rfl) Tryz.func4 (by kernel_rfl)
  (abY (by kernel_rfl)) (by unfold Func.isWrapper;first|(rw[if_pos (by decide+kernel)];kernel_rfl)|(rw[if_neg (by decide+kernel)];exact⟨rfl,rfl⟩))
  (fun os started H enc _ F=>by rw[OpenClaim.pre_eq_preRow];exact lifted os started H enc F)
theorem plain(f:FuncId)(fn:Func)(hf:Tryz.pinned.checked.prog.funcNamed "worldmint/worldmintlaw16.LedgerBags"=some f)(hfn:Tryz.pinned.checked.prog.funcs[f]?=some fn):
 false=Tryz.pinned.checked.prog.looks []/\∀(j:Nat) t,fn.params[j]?=some t->Tryz.pinned.checked.prog.wantsStandIn t=false:=by
 obtain rfl:f=4:=Option.some.inj ((show Tryz.prog.funcNamed "worldmint/worldmintlaw16.LedgerBags"=some 4 by kernel_rfl).symm.trans hf) |>.symm
 obtain rfl:fn=Tryz.f4:=(Option.some.inj (Tryz.func4.symm.trans hfn)).symm
 refine⟨by kernel_rfl,fun j t ht=>?_⟩
 rw[Tryz.params4]at ht
 match j,ht with
 |0,ht=>simp at ht;subst ht;exact(show Tryz.prog.wantsStandIn 40=false by kernel_rfl)
 |1,ht=>simp at ht;subst ht;exact(show Tryz.prog.wantsStandIn 40=false by kernel_rfl)
 |j+2,ht=>simp at ht
theorem bags_proved:Rows.LedgerBagsCardSaid:=
 Claim7.holds_tied_plain_at .later [] _ _ _ _ said (fun _ h=>by cases h) (by kernel_rfl) (fun _ h=>by cases h) ledgerBags_row_tie rfl ⟨rfl,rfl⟩ (by kernel_rfl) rfl plain (by kernel_rfl)
end Go.Proofs.YtknnpcfhekkjjaaGreatDoor
