/- LedgerParts: for every input the law returns true. The card: the lexer's table is as the program's text lays it. -/
import Derived.Test.YtmojfblpbcficaaGreatDoorUM44
import Derived.Test.YtmojfblpbcficaaGreatDoorUM45
set_option linter.all false
namespace Go.Proofs.YtmojfblpbcficaaGreatDoor
set_option maxRecDepth 100000
open Go.TM Go.ChangeShapes Go.WideShapes Go.ChangeAt Go.RowKit
theorem HP[bp](sh:Int)(n k:List Int)(_:tw sh)(_:∀x,x∈n->tw x)(_:∀x,x∈k->tw x):aN Tryz.prog 4 [I sh,Ints n,Ints k] [B true]:=J8 zZ sh n k
theorem Aj(os:Os):laidMet Tryz.prog Rows.ledgerPartsRow.laid ((Ci (World.holding Tryz.prog os ⟨#[],#[],[]⟩)).forCall (fun _ _=>0) ⟨#[],#[.int .i64 0,.slice none 0 0,.slice none 0 0],[]⟩).memory:=
 laidMet_of_run' 8 (by kernel_rfl) (by kernel_rfl)
theorem reads(os:Os){H:Type}(enc:TypeId×Value->H):∃places,DataW.whole enc Tryz.prog ((Ci (World.holding Tryz.prog os ⟨#[],#[],[]⟩)).forCall (fun _ _=>0) ⟨#[],#[.int .i64 0,.slice none 0 0,.slice none 0 0],[]⟩).memory Tryz.f4.params.toList Rows.ledgerPartsSpec.vars false #[Value.int .i64 0,.slice none 0 0,.slice none 0 0].toList 8=some ([.lit (.int .i64 0),.nil,.nil],[],places):=
 ⟨[],by kernel_rfl⟩
theorem Ak(H:Type)(enc:TypeId×Value->H)(W:World)(base:Nat)(args:Array Value)(ds gs:List (DataW H))(before:List MemPlace)
 (pZ:∀(j:Nat) t v,Tryz.f4.params[j]?=some t->args[j]?=some v->Value.okWide Tryz.prog W .any base t v)
 (hW:DataW.Whole enc Tryz.prog Tryz.f4.params.toList Rows.ledgerPartsSpec.vars false W args.toList ds gs before) (hL:laidMetH Tryz.prog Rows.ledgerPartsRow.laid W):
 Calls Tryz.prog 4 args W fun e W'=>∃v,e=.returned v/\Rows.ledgerPartsSpec.post enc Tryz.prog Tryz.f4 false true false false W args v W':=by
 have Ve:=hW
 obtain⟨p,q,hA0,hV,rfl,l6,dW⟩:=hW
 have hA:DataW.TrodAll enc Tryz.prog W 0 (fun _=>true) true Tryz.f4.params.toList args.toList ds p:=hA0
 rw[Tryz.params4]at hA pZ
 obtain⟨v0,vs0,d0,ds0,p0,q0,cK,rfl,rfl,h0,r0⟩:=trodAll_cons hA
 obtain⟨v1,vs1,d1,ds1,p1,q1,rfl,rfl,rfl,h1,r1⟩:=trodAll_cons r0
 obtain⟨v2,vs2,d2,ds2,p2,q2,rfl,rfl,rfl,h2,r2⟩:=trodAll_cons r1
 obtain⟨rfl,rfl,rfl⟩:=trodAll_nil r2
 obtain rfl:args=#[v0,v1,v2]:=by cases args;simp_all
 obtain⟨rfl,rfl⟩:=trodVars_none hV
 have jR:=okWide_slice Tryz.underlying22 (pZ 1 22 v1 rfl rfl)
 obtain⟨zs1,hz1,hy1⟩:=xH jR h1
 have lZ:=okWide_slice Tryz.underlying22 (pZ 2 22 v2 rfl rfl)
 obtain⟨zs2,hz2,hy2⟩:=xH lZ h2
 obtain⟨a0,rfl,rfl,rfl,wa0⟩:=open_int Tryz.underlying3 (pZ 0 3 v0 rfl rfl) h0
 clear hA0
 simp only[List.append_nil,List.nil_append]at Ve
 have J3:∀x,x∈p1->x.block<W.heap.size:=fun x hx=>Ve.lt x (adr.2 (.inl hx))
 have iN:∀x,x∈p2->x.block<W.heap.size:=fun x hx=>Ve.lt x (adr.2 (.inr hx))
 have hrel:eZ (fun b=>W.heap[b]?) [I a0,Ints zs1,Ints zs2] [.int .i64 a0,v1,v2]:=by
  refine⟨rfl,fun j d v hd hv=>?_⟩
  match j,hd,hv with
  |0,hd,hv=>simp at hd hv;subst hd;subst hv;exact .int _ _
  |1,hd,hv=>simp at hd hv;subst hd;subst hv;exact hz1
  |2,hd,hv=>simp at hd hv;subst hd;subst hv;exact hz2
  |j+3,hd,hv=>simp at hd
 obtain⟨ty,fr,hk⟩:=Ho hL
 letI:bp:=⟨ty,fr⟩
 have mq:mJ (fun b=>W.heap[b]?):=by
  intro j o hj
  have hj:I1 j=some o:=hj
  unfold I1 at hj
  cases hb:Nat.beq j 0 with
  |false=>rw[hb]at hj;cases hj
  |true=>
   rw[hb]at hj
   have:=ab9 hb
   subst this
   exact hk.trans hj
 have iT:=(HP a0 zs1 zs2 (R6 wa0) hy1 hy2).2 W (fun b=>W.heap[b]?) _ (fun _ _ h=>h) mq hrel
 refine Calls.mono iT fun e W' ⟨v,M',he,hb,hle,dw,nL,hZ⟩=>?_
 subst he
 have TX:v=.bool true:=by
  have hZ:bz M' (B true) v:=hZ
  cases hZ with|bool=>rfl
 subst TX
 exact⟨_,rfl,[_,d1,d2],[],p1++p2,[],p1++p2,[],Ve,trodAll_mk1 (shut_bool Tryz.underlying4 _),(by
  have h4:=trodAll_cons_mk (shut_int Tryz.underlying3 wa0) (trodAll_cons_mk (Below.trod laidOut (by kernel_rfl) (by decide+kernel) h1 hb J3) (trodAll_cons_mk (Below.trod laidOut (by kernel_rfl) (by decide+kernel) h2 hb iN) trodAll_mk0))
  simp only[List.append_nil,List.nil_append]at h4
  exact h4),rfl,hb.frame _,fun h=>by cases h⟩
theorem lifted(os:Os)(started:os.Started)(H:Type)(enc:TypeId×Value->H)(F:Stop.Interp):
 ReturnsInHanded {} Tryz.checked os 4 .any ((OpenSpec.ofChange Rows.ledgerPartsSpec).preRow enc Tryz.prog Tryz.f4 Rows.ledgerPartsRow.domain false Rows.ledgerPartsRow.laid) (((OpenSpec.ofChange Rows.ledgerPartsSpec).at F).post enc Tryz.prog Tryz.f4 false true false false):=by
 obtain⟨places,hx⟩:=reads os enc
 refine returnsInHanded_of_row (C:=Tryz.checked) (s:=OpenSpec.ofChange Rows.ledgerPartsSpec) own started (by kernel_rfl) Tryz.func4
  (witness_row_at (enc:=enc) (C:=Tryz.checked) false (Ci (World.holding Tryz.prog os ⟨#[],#[],[]⟩)) #[.int .i64 0,.slice none 0 0,.slice none 0 0] rfl (by kernel_rfl) (by kernel_rfl) (by kernel_rfl)
   (OpenSpec.preRow_of_cond 8 hx (by kernel_rfl) (fun k hk=>by cases hk) (by kernel_rfl) (Aj os))) ?_
 intro W base args ds gs before pZ hW _ _ _ hL _ _
 exact Ak H enc W base args ds gs before pZ hW hL
theorem said:Rows.LedgerPartsSaid:=
 OpenClaim.holds_of_cond 4 Tryz.f4 rfl rfl rfl rfl rfl rfl rfl ⟨rfl,rfl,rfl,rfl,rfl⟩ rfl rfl rfl rfl rfl (by kernel_rfl) Tryz.func4 (by kernel_rfl)
  (adz (by kernel_rfl)) (by unfold Func.isWrapper;first|(rw[if_pos (by decide+kernel)];kernel_rfl)|(rw[if_neg (by decide+kernel)];exact⟨rfl,rfl⟩))
  (fun os started H enc _ F=>by rw[OpenClaim.pre_eq_preRow];exact lifted os started H enc F)
theorem plain(f:FuncId)(fn:Func)(hf:Tryz.pinned.checked.prog.funcNamed "worldmint/worldmintlaw16.LedgerParts"=some f)(Od:Tryz.pinned.checked.prog.funcs[f]?=some fn):
 true=Tryz.pinned.checked.prog.looks []/\∀(j:Nat) t,fn.params[j]?=some t->Tryz.pinned.checked.prog.wantsStandIn t=false:=by
 obtain rfl:f=4:=Option.some.inj ((show Tryz.prog.funcNamed "worldmint/worldmintlaw16.LedgerParts"=some 4 by kernel_rfl).symm.trans hf) |>.symm
 obtain rfl:fn=Tryz.f4:=(Option.some.inj (Tryz.func4.symm.trans Od)).symm
 refine⟨by kernel_rfl,fun j t ht=>?_⟩
 rw[Tryz.params4]at ht
 match j,ht with
 |0,ht=>simp at ht;subst ht;exact(show Tryz.prog.wantsStandIn 3=false by kernel_rfl)
 |1,ht=>simp at ht;subst ht;exact(show Tryz.prog.wantsStandIn 22=false by kernel_rfl)
 |2,ht=>simp at ht;subst ht;exact(show Tryz.prog.wantsStandIn 22=false by kernel_rfl)
 |j+3,ht=>simp at ht
theorem parts_proved:Rows.LedgerPartsCardSaid:=
 Claim7.holds_tied_plain_at .later [] _ _ _ _ said (fun _ h=>by cases h) (by kernel_rfl) (fun _ h=>by cases h) ledgerParts_row_tie rfl ⟨rfl,rfl⟩ (by kernel_rfl) rfl plain (by kernel_rfl)
end Go.Proofs.YtmojfblpbcficaaGreatDoor
