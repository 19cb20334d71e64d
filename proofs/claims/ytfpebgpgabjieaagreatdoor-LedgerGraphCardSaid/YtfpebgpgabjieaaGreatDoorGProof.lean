/- LedgerGraph: for every input the law returns true. The card: the lexer's table is as the program's text lays it. -/
import Derived.Test.YtfpebgpgabjieaaGreatDoorGM43
set_option linter.all false
namespace Go.Proofs.YtfpebgpgabjieaaGreatDoor
set_option maxRecDepth 100000
open Go.TM Go.ChangeShapes Go.WideShapes Go.ChangeAt Go.RowKit
theorem SK[bj](n k:List Int)(_:∀x,x∈n->vP x)(_:∀x,x∈k->vP x):aR Tryz.prog 5 [Ints n,Ints k] [B true]:=Hs JT n k
theorem SL(os:Os):laidMet Tryz.prog Rows.ledgerGraphRow.laid ((Sd (World.holding Tryz.prog os ⟨#[],#[],[]⟩)).forCall (fun _ _=>0) ⟨#[],#[.slice none 0 0,.slice none 0 0],[]⟩).memory:=
 laidMet_of_run' 8 (by kernel_rfl) (by kernel_rfl)
theorem reads(os:Os){H:Type}(enc:TypeId×Value->H):∃places,DataW.whole enc Tryz.prog ((Sd (World.holding Tryz.prog os ⟨#[],#[],[]⟩)).forCall (fun _ _=>0) ⟨#[],#[.slice none 0 0,.slice none 0 0],[]⟩).memory Tryz.f5.params.toList Rows.ledgerGraphSpec.vars false #[Value.slice none 0 0,.slice none 0 0].toList 8=some ([.nil,.nil],[],places):=
 ⟨[],by kernel_rfl⟩
theorem SN(H:Type)(enc:TypeId×Value->H)(W:World)(base:Nat)(args:Array Value)(ds gs:List (DataW H))(before:List MemPlace)
 (Av:∀(j:Nat) t v,Tryz.f5.params[j]?=some t->args[j]?=some v->Value.okWide Tryz.prog W .any base t v)
 (hW:DataW.Whole enc Tryz.prog Tryz.f5.params.toList Rows.ledgerGraphSpec.vars false W args.toList ds gs before) (hL:laidMetH Tryz.prog Rows.ledgerGraphRow.laid W):
 Calls Tryz.prog 5 args W fun e W'=>∃v,e=.returned v/\Rows.ledgerGraphSpec.post enc Tryz.prog Tryz.f5 false true false false W args v W':=by
 have hW':=hW
 obtain⟨p,q,hA0,hV,rfl,lT,dC⟩:=hW
 have hA:DataW.TrodAll enc Tryz.prog W 0 (fun _=>true) true Tryz.f5.params.toList args.toList ds p:=hA0
 rw[Tryz.params5]at hA Av
 obtain⟨v0,vs0,d0,ds0,p0,q0,cZ,rfl,rfl,h0,r0⟩:=trodAll_cons hA
 obtain⟨v1,vs1,d1,ds1,p1,q1,rfl,rfl,rfl,h1,r1⟩:=trodAll_cons r0
 obtain⟨rfl,rfl,rfl⟩:=trodAll_nil r1
 obtain rfl:args=#[v0,v1]:=by cases args;simp_all
 obtain⟨rfl,rfl⟩:=trodVars_none hV
 have hs0:=okWide_slice Tryz.underlying22 (Av 0 22 v0 rfl rfl)
 obtain⟨zs0,hz0,hy0⟩:=LK hs0 h0
 have j7:=okWide_slice Tryz.underlying22 (Av 1 22 v1 rfl rfl)
 obtain⟨zs1,hz1,hy1⟩:=LK j7 h1
 clear hA0
 simp only[List.append_nil,List.nil_append]at hW'
 have ado:∀x,x∈p0->x.block<W.heap.size:=fun x hx=>hW'.lt x (adX.2 (.inl hx))
 have Rs:∀x,x∈p1->x.block<W.heap.size:=fun x hx=>hW'.lt x (adX.2 (.inr hx))
 have hrel:fP (fun b=>W.heap[b]?) [Ints zs0,Ints zs1] [v0,v1]:=by
  refine⟨rfl,fun j d v hd hv=>?_⟩
  match j,hd,hv with
  |0,hd,hv=>simp at hd hv;subst hd;subst hv;exact hz0
  |1,hd,hv=>simp at hd hv;subst hd;subst hv;exact hz1
  |j+2,hd,hv=>simp at hd
 obtain⟨ty,fr,hk⟩:=Sc hL
 letI:bj:=⟨ty,fr⟩
 have nM:nC (fun b=>W.heap[b]?):=by
  intro j o hj
  have hj:PM j=some o:=hj
  unfold PM at hj
  cases hb:Nat.beq j 0 with
  |false=>rw[hb]at hj;cases hj
  |true=>
   rw[hb]at hj
   have:=adS hb
   subst this
   exact hk.trans hj
 have jS:=(SK zs0 zs1 hy0 hy1).2 W (fun b=>W.heap[b]?) _ (fun _ _ h=>h) nM hrel
 refine Calls.mono jS fun e W' ⟨v,M',he,hb,hle,dr,oO,gK⟩=>?_
 subst he
 have XK:v=.bool true:=by
  have gK:bu M' (B true) v:=gK
  cases gK with|bool=>rfl
 subst XK
 exact⟨_,rfl,[d0,d1],[],p0++p1,[],p0++p1,[],hW',trodAll_mk1 (shut_bool Tryz.underlying4 _),(by
  have h4:=trodAll_cons_mk (Below.trod laidOut (by kernel_rfl) (by decide+kernel) h0 hb ado) (trodAll_cons_mk (Below.trod laidOut (by kernel_rfl) (by decide+kernel) h1 hb Rs) trodAll_mk0)
  simp only[List.append_nil,List.nil_append]at h4
  exact h4),rfl,hb.frame _,fun h=>by cases h⟩
theorem lifted(os:Os)(started:os.Started)(H:Type)(enc:TypeId×Value->H)(F:Stop.Interp):
 ReturnsInHanded {} Tryz.checked os 5 .any ((OpenSpec.ofChange Rows.ledgerGraphSpec).preRow enc Tryz.prog Tryz.f5 Rows.ledgerGraphRow.domain false Rows.ledgerGraphRow.laid) (((OpenSpec.ofChange Rows.ledgerGraphSpec).at F).post enc Tryz.prog Tryz.f5 false true false false):=by
 obtain⟨places,hx⟩:=reads os enc
 refine returnsInHanded_of_row (C:=Tryz.checked) (s:=OpenSpec.ofChange Rows.ledgerGraphSpec) own started (by kernel_rfl) Tryz.func5
  (witness_row_at (enc:=enc) (C:=Tryz.checked) false (Sd (World.holding Tryz.prog os ⟨#[],#[],[]⟩)) #[.slice none 0 0,.slice none 0 0] rfl (by kernel_rfl) (by kernel_rfl) (by kernel_rfl)
   (OpenSpec.preRow_of_cond 8 hx (by kernel_rfl) (fun k hk=>by cases hk) (by kernel_rfl) (SL os))) ?_
 intro W base args ds gs before Av hW _ _ _ hL _ _
 exact SN H enc W base args ds gs before Av hW hL
theorem said:Rows.LedgerGraphSaid:=
 OpenClaim.holds_of_cond 5 Tryz.f5 rfl rfl rfl rfl rfl rfl rfl ⟨rfl,rfl,rfl,rfl,rfl⟩ rfl rfl rfl rfl rfl (by kernel_rfl) Tryz.func5 (by kernel_rfl)
  (ad5 (by kernel_rfl)) (by unfold Func.isWrapper;first|(rw[if_pos (by decide+kernel)];kernel_rfl)|(rw[if_neg (by decide+kernel)];exact⟨rfl,rfl⟩))
  (fun os started H enc _ F=>by rw[OpenClaim.pre_eq_preRow];exact lifted os started H enc F)
theorem plain(f:FuncId)(fn:Func)(hf:Tryz.pinned.checked.prog.funcNamed "worldmint/worldmintlaw16.LedgerGraph"=some f)(Qr:Tryz.pinned.checked.prog.funcs[f]?=some fn):
 true=Tryz.pinned.checked.prog.looks []/\∀(j:Nat) t,fn.params[j]?=some t->Tryz.pinned.checked.prog.wantsStandIn t=false:=by
 obtain rfl:f=5:=Option.some.inj ((show Tryz.prog.funcNamed "worldmint/worldmintlaw16.LedgerGraph"=some 5 by kernel_rfl).symm.trans hf) |>.symm
 obtain rfl:fn=Tryz.f5:=(Option.some.inj (Tryz.func5.symm.trans Qr)).symm
 refine⟨by kernel_rfl,fun j t ht=>?_⟩
 rw[Tryz.params5]at ht
 match j,ht with
 |0,ht=>simp at ht;subst ht;exact(show Tryz.prog.wantsStandIn 22=false by kernel_rfl)
 |1,ht=>simp at ht;subst ht;exact(show Tryz.prog.wantsStandIn 22=false by kernel_rfl)
 |j+2,ht=>simp at ht
theorem graph_proved:Rows.LedgerGraphCardSaid:=
 Claim7.holds_tied_plain_at .later [] _ _ _ _ said (fun _ h=>by cases h) (by kernel_rfl) (fun _ h=>by cases h) ledgerGraph_row_tie rfl ⟨rfl,rfl⟩ (by kernel_rfl) rfl plain (by kernel_rfl)
end Go.Proofs.YtfpebgpgabjieaaGreatDoor
