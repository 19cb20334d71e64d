/- LedgerConserves: for every input the law returns true. The card: the lexer's table is as the program's text lays it. -/
import Derived.Test.YtmojfblpbcficaaGreatDoorCM45
set_option linter.all false
namespace Go.Proofs.YtmojfblpbcficaaGreatDoor
set_option maxRecDepth 100000
open Go.TM Go.ChangeShapes Go.WideShapes Go.ChangeAt Go.RowKit
theorem Jp[bp](n k:List Int)(_:∀x,x∈n->vD x)(_:∀x,x∈k->vD x):aQ Tryz.prog 3 [Ints n,Ints k] [B true]:=zw Jg n k
theorem Rw(os:Os):laidMet Tryz.prog Rows.ledgerConservesRow.laid ((Q9 (World.holding Tryz.prog os ⟨#[],#[],[]⟩)).forCall (fun _ _=>0) ⟨#[],#[.slice none 0 0,.slice none 0 0],[]⟩).memory:=
 laidMet_of_run' 8 (by kernel_rfl) (by kernel_rfl)
theorem reads(os:Os){H:Type}(enc:TypeId×Value->H):∃places,DataW.whole enc Tryz.prog ((Q9 (World.holding Tryz.prog os ⟨#[],#[],[]⟩)).forCall (fun _ _=>0) ⟨#[],#[.slice none 0 0,.slice none 0 0],[]⟩).memory Tryz.f3.params.toList Rows.ledgerConservesSpec.vars false #[Value.slice none 0 0,.slice none 0 0].toList 8=some ([.nil,.nil],[],places):=
 ⟨[],by kernel_rfl⟩
theorem Rx(H:Type)(enc:TypeId×Value->H)(W:World)(base:Nat)(args:Array Value)(ds gs:List (DataW H))(before:List MemPlace)
 (Af:∀(j:Nat) t v,Tryz.f3.params[j]?=some t->args[j]?=some v->Value.okWide Tryz.prog W .any base t v)
 (hW:DataW.Whole enc Tryz.prog Tryz.f3.params.toList Rows.ledgerConservesSpec.vars false W args.toList ds gs before) (hL:laidMetH Tryz.prog Rows.ledgerConservesRow.laid W):
 Calls Tryz.prog 3 args W fun e W'=>∃v,e=.returned v/\Rows.ledgerConservesSpec.post enc Tryz.prog Tryz.f3 false true false false W args v W':=by
 have hW':=hW
 obtain⟨p,q,hA0,hV,rfl,lL,dS⟩:=hW
 have hA:DataW.TrodAll enc Tryz.prog W 0 (fun _=>true) true Tryz.f3.params.toList args.toList ds p:=hA0
 rw[Tryz.params3]at hA Af
 obtain⟨v0,vs0,d0,ds0,p0,q0,cI,rfl,rfl,h0,r0⟩:=trodAll_cons hA
 obtain⟨v1,vs1,d1,ds1,p1,q1,rfl,rfl,rfl,h1,r1⟩:=trodAll_cons r0
 obtain⟨rfl,rfl,rfl⟩:=trodAll_nil r1
 obtain rfl:args=#[v0,v1]:=by cases args;simp_all
 obtain⟨rfl,rfl⟩:=trodVars_none hV
 have hs0:=okWide_slice Tryz.underlying22 (Af 0 22 v0 rfl rfl)
 obtain⟨zs0,hz0,hy0⟩:=KY hs0 h0
 have j5:=okWide_slice Tryz.underlying22 (Af 1 22 v1 rfl rfl)
 obtain⟨zs1,hz1,hy1⟩:=KY j5 h1
 clear hA0
 simp only[List.append_nil,List.nil_append]at hW'
 have abT:∀x,x∈p0->x.block<W.heap.size:=fun x hx=>hW'.lt x (acr.2 (.inl hx))
 have QZ:∀x,x∈p1->x.block<W.heap.size:=fun x hx=>hW'.lt x (acr.2 (.inr hx))
 have hrel:fG (fun b=>W.heap[b]?) [Ints zs0,Ints zs1] [v0,v1]:=by
  refine⟨rfl,fun j d v hd hv=>?_⟩
  match j,hd,hv with
  |0,hd,hv=>simp at hd hv;subst hd;subst hv;exact hz0
  |1,hd,hv=>simp at hd hv;subst hd;subst hv;exact hz1
  |j+2,hd,hv=>simp at hd
 obtain⟨ty,fr,hk⟩:=Q8 hL
 letI:bp:=⟨ty,fr⟩
 have nt:ny (fun b=>W.heap[b]?):=by
  intro j o hj
  have hj:Pe j=some o:=hj
  unfold Pe at hj
  cases hb:Nat.beq j 0 with
  |false=>rw[hb]at hj;cases hj
  |true=>
   rw[hb]at hj
   have:=acm hb
   subst this
   exact hk.trans hj
 have jG:=(Jp zs0 zs1 hy0 hy1).2 W (fun b=>W.heap[b]?) _ (fun _ _ h=>h) nt hrel
 refine Calls.mono jG fun e W' ⟨v,M',he,hb,hle,dh,oI,jh⟩=>?_
 subst he
 have Wt:v=.bool true:=by
  have jh:bq M' (B true) v:=jh
  cases jh with|bool=>rfl
 subst Wt
 exact⟨_,rfl,[d0,d1],[],p0++p1,[],p0++p1,[],hW',trodAll_mk1 (shut_bool Tryz.underlying4 _),(by
  have h4:=trodAll_cons_mk (Below.trod laidOut (by kernel_rfl) (by decide+kernel) h0 hb abT) (trodAll_cons_mk (Below.trod laidOut (by kernel_rfl) (by decide+kernel) h1 hb QZ) trodAll_mk0)
  simp only[List.append_nil,List.nil_append]at h4
  exact h4),rfl,hb.frame _,fun h=>by cases h⟩
theorem lifted(os:Os)(started:os.Started)(H:Type)(enc:TypeId×Value->H)(F:Stop.Interp):
 ReturnsInHanded {} Tryz.checked os 3 .any ((OpenSpec.ofChange Rows.ledgerConservesSpec).preRow enc Tryz.prog Tryz.f3 Rows.ledgerConservesRow.domain false Rows.ledgerConservesRow.laid) (((OpenSpec.ofChange Rows.ledgerConservesSpec).at F).post enc Tryz.prog Tryz.f3 false true false false):=by
 obtain⟨places,hx⟩:=reads os enc
 refine returnsInHanded_of_row (C:=Tryz.checked) (s:=OpenSpec.ofChange Rows.ledgerConservesSpec) own started (by kernel_rfl) Tryz.func3
  (witness_row_at (enc:=enc) (C:=Tryz.checked) false (Q9 (World.holding Tryz.prog os ⟨#[],#[],[]⟩)) #[.slice none 0 0,.slice none 0 0] rfl (by kernel_rfl) (by kernel_rfl) (by kernel_rfl)
   (OpenSpec.preRow_of_cond 8 hx (by kernel_rfl) (fun k hk=>by cases hk) (by kernel_rfl) (Rw os))) ?_
 intro W base args ds gs before Af hW _ _ _ hL _ _
 exact Rx H enc W base args ds gs before Af hW hL
theorem said:Rows.LedgerConservesSaid:=
 OpenClaim.holds_of_cond 3 Tryz.f3 rfl rfl rfl rfl rfl rfl rfl ⟨rfl,rfl,rfl,rfl,rfl⟩ rfl rfl rfl rfl rfl (by kernel_rfl) Tryz.func3 (by kernel_rfl)
  (acA (by kernel_rfl)) (by unfold Func.isWrapper;first|(rw[if_pos (by decide+kernel)];kernel_rfl)|(rw[if_neg (by decide+kernel)];exact⟨rfl,rfl⟩))
  (fun os started H enc _ F=>by rw[OpenClaim.pre_eq_preRow];exact lifted os started H enc F)
theorem plain(f:FuncId)(fn:Func)(hf:Tryz.pinned.checked.prog.funcNamed "worldmint/worldmintlaw16.LedgerConserves"=some f)(PW:Tryz.pinned.checked.prog.funcs[f]?=some fn):
 true=Tryz.pinned.checked.prog.looks []/\∀(j:Nat) t,fn.params[j]?=some t->Tryz.pinned.checked.prog.wantsStandIn t=false:=by
 obtain rfl:f=3:=Option.some.inj ((show Tryz.prog.funcNamed "worldmint/worldmintlaw16.LedgerConserves"=some 3 by kernel_rfl).symm.trans hf) |>.symm
 obtain rfl:fn=Tryz.f3:=(Option.some.inj (Tryz.func3.symm.trans PW)).symm
 refine⟨by kernel_rfl,fun j t ht=>?_⟩
 rw[Tryz.params3]at ht
 match j,ht with
 |0,ht=>simp at ht;subst ht;exact(show Tryz.prog.wantsStandIn 22=false by kernel_rfl)
 |1,ht=>simp at ht;subst ht;exact(show Tryz.prog.wantsStandIn 22=false by kernel_rfl)
 |j+2,ht=>simp at ht
theorem conserves_proved:Rows.LedgerConservesCardSaid:=
 Claim7.holds_tied_plain_at .later [] _ _ _ _ said (fun _ h=>by cases h) (by kernel_rfl) (fun _ h=>by cases h) ledgerConserves_row_tie rfl ⟨rfl,rfl⟩ (by kernel_rfl) rfl plain (by kernel_rfl)
end Go.Proofs.YtmojfblpbcficaaGreatDoor
