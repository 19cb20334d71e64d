/- LedgerNew: for every input the law returns true. The card: the lexer's table is as the program's text lays it. -/
import Derived.Test.YtfpebgpgabjieaaGreatDoorHM52
import Derived.ChangeMaps5
set_option linter.all false
namespace Go.Proofs.YtfpebgpgabjieaaGreatDoor
set_option maxRecDepth 100000
open Go.TM Go.ChangeShapes Go.WideShapes Go.ChangeAt Go.RowKit
theorem SI(os:Os):laidMet Tryz.prog Rows.ledgerNewRow.laid ((Sk (World.holding Tryz.prog os ⟨#[],#[],[]⟩)).forCall (fun _ _=>0) ⟨#[],#[.int .i64 0,.int .i64 0,.int .i64 0,.string ⟨#[]⟩],[]⟩).memory:=
 laidMet_of_run' 8 (by kernel_rfl) (by kernel_rfl)
theorem reads(os:Os){H:Type}(enc:TypeId×Value->H):∃places,DataW.whole enc Tryz.prog ((Sk (World.holding Tryz.prog os ⟨#[],#[],[]⟩)).forCall (fun _ _=>0) ⟨#[],#[.int .i64 0,.int .i64 0,.int .i64 0,.string ⟨#[]⟩],[]⟩).memory Tryz.f4.params.toList Rows.ledgerNewSpec.vars false #[Value.int .i64 0,.int .i64 0,.int .i64 0,.string ⟨#[]⟩].toList 8=some ([.lit (.int .i64 0),.lit (.int .i64 0),.lit (.int .i64 0),.lit (.string [])],[],places):=
 ⟨[],by kernel_rfl⟩
theorem SJ(H:Type)(enc:TypeId×Value->H)(W:World)(base:Nat)(args:Array Value)(ds gs:List (DataW H))(before:List MemPlace)
 (wm:∀(j:Nat) t v,Tryz.f4.params[j]?=some t->args[j]?=some v->Value.okWide Tryz.prog W .any base t v)
 (hW:DataW.Whole enc Tryz.prog Tryz.f4.params.toList Rows.ledgerNewSpec.vars false W args.toList ds gs before) (hL:laidMetH Tryz.prog Rows.ledgerNewRow.laid W):
 Calls Tryz.prog 4 args W fun e W'=>∃v,e=.returned v/\Rows.ledgerNewSpec.post enc Tryz.prog Tryz.f4 false true false false W args v W':=by
 have hW':=hW
 obtain⟨p,q,hA0,hV,rfl,lL,ec⟩:=hW
 have hA:DataW.TrodAll enc Tryz.prog W 0 (fun _=>true) true Tryz.f4.params.toList args.toList ds p:=hA0
 rw[Tryz.params4]at hA wm
 obtain⟨v0,vs0,d0,ds0,p0,q0,dp,rfl,rfl,h0,r0⟩:=trodAll_cons hA
 obtain⟨v1,vs1,d1,ds1,p1,q1,rfl,rfl,rfl,h1,r1⟩:=trodAll_cons r0
 obtain⟨v2,vs2,d2,ds2,p2,q2,rfl,rfl,rfl,h2,r2⟩:=trodAll_cons r1
 obtain⟨v3,vs3,d3,ds3,p3,q3,rfl,rfl,rfl,h3,r3⟩:=trodAll_cons r2
 obtain⟨rfl,rfl,rfl⟩:=trodAll_nil r3
 obtain rfl:args=#[v0,v1,v2,v3]:=by cases args;simp_all
 obtain⟨rfl,rfl⟩:=trodVars_none hV
 obtain⟨a0,rfl,rfl,rfl,wa0⟩:=open_int Tryz.underlying3 (wm 0 3 v0 rfl rfl) h0
 obtain⟨a1,rfl,rfl,rfl,wa1⟩:=open_int Tryz.underlying3 (wm 1 3 v1 rfl rfl) h1
 obtain⟨a2,rfl,rfl,rfl,wa2⟩:=open_int Tryz.underlying3 (wm 2 3 v2 rfl rfl) h2
 obtain⟨a3,rfl,rfl,rfl,wa3⟩:=Go.ChangeMaps.open_string Tryz.underlying9 (wm 3 9 v3 rfl rfl) h3
 clear hA0
 simp only[List.append_nil,List.nil_append]at hW'
 have hrel:fS (fun b=>W.heap[b]?) [I a0,I a1,I a2,.str a3] [.int .i64 a0,.int .i64 a1,.int .i64 a2,.string a3]:=by
  refine⟨rfl,fun j d v hd hv=>?_⟩
  match j,hd,hv with
  |0,hd,hv=>simp at hd hv;subst hd;subst hv;exact .int _ _
  |1,hd,hv=>simp at hd hv;subst hd;subst hv;exact .int _ _
  |2,hd,hv=>simp at hd hv;subst hd;subst hv;exact .int _ _
  |3,hd,hv=>simp at hd hv;subst hd;subst hv;exact .str _
  |j+4,hd,hv=>simp at hd
 obtain⟨ty,fr,hk⟩:=Sj hL
 letI:aW:=⟨ty,fr⟩
 have nr:nu (fun b=>W.heap[b]?):=by
  intro j o hj
  have hj:Pn j=some o:=hj
  unfold Pn at hj
  cases hb:Nat.beq j 0 with
  |false=>rw[hb]at hj;cases hj
  |true=>
   rw[hb]at hj
   have:=adm hb
   subst this
   exact hk.trans hj
 have jU:=(Nd a0 a1 a2 a3 ).2 W (fun b=>W.heap[b]?) _ (fun _ _ h=>h) nr hrel
 refine Calls.mono jU fun e W' ⟨v,M',he,hb,hle,dz,oI,jy⟩=>?_
 subst he
 have Xu:v=.bool true:=by
  have jy:bq M' (B true) v:=jy
  cases jy with|bool=>rfl
 subst Xu
 exact⟨_,rfl,[_,_,_,_],[],[],[],[],[],hW',trodAll_mk1 (shut_bool Tryz.underlying4 _),(by
  exact trodAll_cons_mk (shut_int Tryz.underlying3 wa0) (trodAll_cons_mk (shut_int Tryz.underlying3 wa1) (trodAll_cons_mk (shut_int Tryz.underlying3 wa2) (trodAll_cons_mk (Go.ChangeMaps.shut_string Tryz.underlying9 wa3) trodAll_mk0)))),rfl,hb.frame _,fun h=>by cases h⟩
theorem lifted(os:Os)(started:os.Started)(H:Type)(enc:TypeId×Value->H)(F:Stop.Interp):
 ReturnsInHanded {} Tryz.checked os 4 .any ((OpenSpec.ofChange Rows.ledgerNewSpec).preRow enc Tryz.prog Tryz.f4 Rows.ledgerNewRow.domain false Rows.ledgerNewRow.laid) (((OpenSpec.ofChange Rows.ledgerNewSpec).at F).post enc Tryz.prog Tryz.f4 false true false false):=by
 obtain⟨places,hx⟩:=reads os enc
 refine returnsInHanded_of_row (C:=Tryz.checked) (s:=OpenSpec.ofChange Rows.ledgerNewSpec) own started (by kernel_rfl) Tryz.func4
  (witness_row_at (enc:=enc) (C:=Tryz.checked) false (Sk (World.holding Tryz.prog os ⟨#[],#[],[]⟩)) #[.int .i64 0,.int .i64 0,.int .i64 0,.string ⟨#[]⟩] rfl (by kernel_rfl) (by kernel_rfl) (by kernel_rfl)
   (OpenSpec.preRow_of_cond 8 hx (by kernel_rfl) (fun k hk=>by cases hk) (by kernel_rfl) (SI os))) ?_
 intro W base args ds gs before wm hW _ _ _ hL _ _
 exact SJ H enc W base args ds gs before wm hW hL
theorem said:Rows.LedgerNewSaid:=
 OpenClaim.holds_of_cond 4 Tryz.f4 rfl rfl rfl rfl rfl rfl rfl ⟨rfl,rfl,rfl,rfl,rfl⟩ rfl rfl rfl rfl rfl (by kernel_rfl) Tryz.func4 (by kernel_rfl)
  (adz (by kernel_rfl)) (by unfold Func.isWrapper;first|(rw[if_pos (by decide+kernel)];kernel_rfl)|(rw[if_neg (by decide+kernel)];exact⟨rfl,rfl⟩))
  (fun os started H enc _ F=>by rw[OpenClaim.pre_eq_preRow];exact lifted os started H enc F)
theorem plain(f:FuncId)(fn:Func)(hf:Tryz.pinned.checked.prog.funcNamed "worldmint/worldmintlaw16.LedgerNew"=some f)(hfn:Tryz.pinned.checked.prog.funcs[f]?=some fn):
 true=Tryz.pinned.checked.prog.looks []/\∀(j:Nat) t,fn.params[j]?=some t->Tryz.pinned.checked.prog.wantsStandIn t=false:=by
 obtain rfl:f=4:=Option.some.inj ((show Tryz.prog.funcNamed "worldmint/worldmintlaw16.LedgerNew"=some 4 by kernel_rfl).symm.trans hf) |>.symm
 obtain rfl:fn=Tryz.f4:=(Option.some.inj (Tryz.func4.symm.trans hfn)).symm
 refine⟨by kernel_rfl,fun j t ht=>?_⟩
 rw[Tryz.params4]at ht
 match j,ht with
 |0,ht=>simp at ht;subst ht;exact(show Tryz.prog.wantsStandIn 3=false by kernel_rfl)
 |1,ht=>simp at ht;subst ht;exact(show Tryz.prog.wantsStandIn 3=false by kernel_rfl)
 |2,ht=>simp at ht;subst ht;exact(show Tryz.prog.wantsStandIn 3=false by kernel_rfl)
 |3,ht=>simp at ht;subst ht;exact(show Tryz.prog.wantsStandIn 9=false by kernel_rfl)
 |j+4,ht=>simp at ht
theorem new_proved:Rows.LedgerNewCardSaid:=
 Claim7.holds_tied_plain_at .later [] _ _ _ _ said (fun _ h=>by cases h) (by kernel_rfl) (fun _ h=>by cases h) ledgerNew_row_tie rfl ⟨rfl,rfl⟩ (by kernel_rfl) rfl plain (by kernel_rfl)
end Go.Proofs.YtfpebgpgabjieaaGreatDoor
