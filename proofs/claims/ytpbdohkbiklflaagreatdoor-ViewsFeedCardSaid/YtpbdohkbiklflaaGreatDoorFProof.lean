/- ViewsFeed: for every input the law returns true. The card: the lexer's table is as the program's text lays it. -/
import Derived.Test.YtpbdohkbiklflaaGreatDoorFM33
set_option linter.unusedVariables false
set_option linter.unusedSimpArgs false
set_option linter.unusedSectionVars false
namespace Go.Proofs.YtpbdohkbiklflaaGreatDoor
open Go.TM Go.ChangeShapes Go.WideShapes Go.ChangeAt Go.RowKit
theorem L6 (os:Os):laidMet Tryz.prog Rows.viewsFeedRow.laid ((LI (World.holding Tryz.prog os ⟨#[],#[],[]⟩)).forCall (fun _ _=>0) ⟨#[],#[.slice none 0 0,.int .i64 0,.int .i64 0],[]⟩).memory :=
 laidMet_of_run' 8 (by kernel_rfl) (by kernel_rfl)
theorem reads (os:Os) {H:Type} (enc:TypeId × Value→H):∃places,DataW.whole enc Tryz.prog ((LI (World.holding Tryz.prog os ⟨#[],#[],[]⟩)).forCall (fun _ _=>0) ⟨#[],#[.slice none 0 0,.int .i64 0,.int .i64 0],[]⟩).memory Tryz.f7.params.toList Rows.viewsFeedSpec.vars false #[Value.slice none 0 0,.int .i64 0,.int .i64 0].toList 8=some ([.nil,.lit (.int .i64 0),.lit (.int .i64 0)],[],places) :=
 ⟨[],by kernel_rfl⟩
set_option maxRecDepth 100000 in
theorem L7 (H:Type) (enc:TypeId × Value→H) (W:World) (base:Nat) (args:Array Value) (ds gs:List (DataW H)) (before:List MemPlace)
  (Ch:∀(j:Nat) t v,Tryz.f7.params[j]?=some t→args[j]?=some v→Value.okWide Tryz.prog W .any base t v)
  (hW:DataW.Whole enc Tryz.prog Tryz.f7.params.toList Rows.viewsFeedSpec.vars false W args.toList ds gs before) (hL:laidMetH Tryz.prog Rows.viewsFeedRow.laid W) :
  Calls Tryz.prog 7 args W fun e W'=>∃v,e=.returned v∧Rows.viewsFeedSpec.post enc Tryz.prog Tryz.f7 false true false false W args v W':=by
 have Ws:=hW
 obtain ⟨p,q,Xr,hV,rfl,hZ,c6⟩:=hW
 have hA:DataW.TrodAll enc Tryz.prog W 0 (fun _=>true) true Tryz.f7.params.toList args.toList ds p:=Xr
 rw [Tryz.params7] at hA Ch
 obtain ⟨v0,I0,d0,ZV,p0,q0,bM,rfl,rfl,h0,r0⟩:=trodAll_cons hA
 obtain ⟨v1,ZW,d1,ZX,p1,q1,rfl,rfl,rfl,h1,r1⟩:=trodAll_cons r0
 obtain ⟨v2,ZY,d2,ZZ,p2,q2,rfl,rfl,rfl,h2,r2⟩:=trodAll_cons r1
 obtain ⟨rfl,rfl,rfl⟩:=trodAll_nil r2
 obtain rfl:args=#[v0,v1,v2]:=by cases args; simp_all
 obtain ⟨rfl,rfl⟩:=trodVars_none hV
 have Zj:=okWide_slice Tryz.underlying30 (Ch 0 30 v0 rfl rfl)
 obtain ⟨Xs,DG,Zk⟩:=N0 Zj h0
 obtain ⟨a1,rfl,rfl,rfl,Xt⟩:=open_int Tryz.underlying3 (Ch 1 3 v1 rfl rfl) h1
 obtain ⟨a2,rfl,rfl,rfl,Xu⟩:=open_int Tryz.underlying3 (Ch 2 3 v2 rfl rfl) h2
 clear Xr
 simp only [List.append_nil,List.nil_append] at Ws
 have Wt:∀x,x∈p0→x.block<W.heap.size:=fun x hx=>Ws.lt x hx
 have dt:eM (fun b=>W.heap[b]?) [eY Xs,I a1,I a2] [v0,.int .i64 a1,.int .i64 a2]:=by
  refine ⟨rfl,fun j d v hd hv=>?_⟩
  match j,hd,hv with
  | 0,hd,hv=>simp at hd hv; subst hd; subst hv; exact DG
  | 1,hd,hv=>simp at hd hv; subst hd; subst hv; exact .int _ _
  | 2,hd,hv=>simp at hd hv; subst hd; subst hv; exact .int _ _
  | j+3,hd,hv=>simp at hd
 obtain ⟨ty,fr,hk⟩:=LH hL
 letI:de:=⟨ty,fr⟩
 have ri:oV (fun b=>W.heap[b]?):=by
  intro j o hj
  have hj:KP j=some o:=hj
  unfold KP at hj
  cases hb:Nat.beq j 0 with
  | false=>rw [hb] at hj; cases hj
  | true =>
   rw [hb] at hj
   have:=Nat.eq_of_beq_eq_true hb
   subst this
   exact hk.trans hj
 have jZ:=(Fy Xs a1 a2 Zk (Fz Xt) (Fz Xu)).2 W (fun b=>W.heap[b]?) _ (fun _ _ h=>h) ri dt
 refine Calls.mono jZ fun e W' ⟨v,M',he,hb,hle,ek,mq,rB⟩=>?_
 subst he
 have Zl:v=.bool true:=by
  have rB:bj M' (B true) v:=rB
  cases rB with | bool=>rfl
 subst Zl
 exact ⟨_,rfl,[d0,_,_],[],p0,[],p0,[],Ws,trodAll_mk1 (shut_bool Tryz.underlying4 _),(by
   have h4:=trodAll_cons_mk (Below.trod laidOut (by kernel_rfl) (by decide +kernel) h0 hb Wt) (trodAll_cons_mk (shut_int Tryz.underlying3 Xt) (trodAll_cons_mk (shut_int Tryz.underlying3 Xu) trodAll_mk0))
   simp only [List.append_nil,List.nil_append] at h4
   exact h4),rfl,hb.frame _,fun h=>by cases h⟩
set_option maxRecDepth 100000 in
theorem lifted (os:Os) (started:os.Started) (H:Type) (enc:TypeId × Value→H) (F:Stop.Interp) :
  ReturnsInHanded {} Tryz.checked os 7 .any ((OpenSpec.ofChange Rows.viewsFeedSpec).preRow enc Tryz.prog Tryz.f7 Rows.viewsFeedRow.domain false Rows.viewsFeedRow.laid) (((OpenSpec.ofChange Rows.viewsFeedSpec).at F).post enc Tryz.prog Tryz.f7 false true false false):=by
 obtain ⟨places,hx⟩:=reads os enc
 refine returnsInHanded_of_row (C:=Tryz.checked) (s:=OpenSpec.ofChange Rows.viewsFeedSpec) own started (by kernel_rfl) Tryz.func7
  (witness_row_at (enc:=enc) (C:=Tryz.checked) false (LI (World.holding Tryz.prog os ⟨#[],#[],[]⟩)) #[.slice none 0 0,.int .i64 0,.int .i64 0] rfl (by kernel_rfl) (by kernel_rfl) (by kernel_rfl)
   (OpenSpec.preRow_of_cond 8 hx (by kernel_rfl) (fun k hk=>by cases hk) (by kernel_rfl) (L6 os))) ?_
 intro W base args ds gs before Ch hW _ _ _ hL _ _
 exact L7 H enc W base args ds gs before Ch hW hL
theorem said:Rows.ViewsFeedSaid :=
 OpenClaim.holds_of_cond 7 Tryz.f7 rfl rfl rfl rfl rfl rfl rfl ⟨rfl,rfl,rfl,rfl,rfl⟩ rfl rfl rfl rfl rfl (by kernel_rfl) Tryz.func7 (by kernel_rfl)
  (of_decide_eq_true (by kernel_rfl)) (by unfold Func.isWrapper; first | (rw [if_pos (by decide +kernel)]; kernel_rfl) | (rw [if_neg (by decide +kernel)]; exact ⟨rfl,rfl⟩))
  (fun os started H enc _ F=>by rw [OpenClaim.pre_eq_preRow]; exact lifted os started H enc F)
theorem plain (f:FuncId) (fn:Func) (hf:Tryz.pinned.checked.prog.funcNamed "worldmint/worldmintlaw38.ViewsFeed"=some f) (Zm:Tryz.pinned.checked.prog.funcs[f]?=some fn) :
  true=Tryz.pinned.checked.prog.looks []∧∀(j:Nat) t,fn.params[j]?=some t→Tryz.pinned.checked.prog.wantsStandIn t=false:=by
 obtain rfl:f=7:=Option.some.inj ((show Tryz.prog.funcNamed "worldmint/worldmintlaw38.ViewsFeed"=some 7 by kernel_rfl).symm.trans hf) |>.symm
 obtain rfl:fn=Tryz.f7:=(Option.some.inj (Tryz.func7.symm.trans Zm)).symm
 refine ⟨by kernel_rfl,fun j t ht=>?_⟩
 rw [Tryz.params7] at ht
 match j,ht with
 | 0,ht=>simp at ht; subst ht; exact (show Tryz.prog.wantsStandIn 30=false by kernel_rfl)
 | 1,ht=>simp at ht; subst ht; exact (show Tryz.prog.wantsStandIn 3=false by kernel_rfl)
 | 2,ht=>simp at ht; subst ht; exact (show Tryz.prog.wantsStandIn 3=false by kernel_rfl)
 | j+3,ht=>simp at ht
theorem vfeed_proved:Rows.ViewsFeedCardSaid :=
 Claim7.holds_tied_plain_at .later [] _ _ _ _ said (fun _ h=>by cases h) (by kernel_rfl) (fun _ h=>by cases h) viewsFeed_row_tie rfl ⟨rfl,rfl⟩ (by kernel_rfl) rfl plain (by kernel_rfl)
end Go.Proofs.YtpbdohkbiklflaaGreatDoor
