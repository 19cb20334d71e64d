/- ViewsScratch: for every input the law returns true. The card: the lexer's table is as the program's text lays it. -/
import Derived.Test.YtpbdohkbiklflaaGreatDoorSM30
set_option linter.unusedVariables false
set_option linter.unusedSimpArgs false
set_option linter.unusedSectionVars false
namespace Go.Proofs.YtpbdohkbiklflaaGreatDoor
open Go.TM Go.ChangeShapes Go.WideShapes Go.ChangeAt Go.RowKit
theorem JV (os:Os):laidMet Tryz.prog Rows.viewsScratchRow.laid ((Jy (World.holding Tryz.prog os ⟨#[],#[],[]⟩)).forCall (fun _ _=>0) ⟨#[],#[.slice none 0 0,.int .i64 0,.int .i64 0,.int .i64 0],[]⟩).memory :=
 laidMet_of_run' 8 (by kernel_rfl) (by kernel_rfl)
theorem reads (os:Os) {H:Type} (enc:TypeId × Value→H):∃places,DataW.whole enc Tryz.prog ((Jy (World.holding Tryz.prog os ⟨#[],#[],[]⟩)).forCall (fun _ _=>0) ⟨#[],#[.slice none 0 0,.int .i64 0,.int .i64 0,.int .i64 0],[]⟩).memory Tryz.f6.params.toList Rows.viewsScratchSpec.vars false #[Value.slice none 0 0,.int .i64 0,.int .i64 0,.int .i64 0].toList 8=some ([.nil,.lit (.int .i64 0),.lit (.int .i64 0),.lit (.int .i64 0)],[],places) :=
 ⟨[],by kernel_rfl⟩
set_option maxRecDepth 100000 in
theorem JW (H:Type) (enc:TypeId × Value→H) (W:World) (base:Nat) (args:Array Value) (ds gs:List (DataW H)) (before:List MemPlace)
  (yO:∀(j:Nat) t v,Tryz.f6.params[j]?=some t→args[j]?=some v→Value.okWide Tryz.prog W .any base t v)
  (hW:DataW.Whole enc Tryz.prog Tryz.f6.params.toList Rows.viewsScratchSpec.vars false W args.toList ds gs before) (hL:laidMetH Tryz.prog Rows.viewsScratchRow.laid W) :
  Calls Tryz.prog 6 args W fun e W'=>∃v,e=.returned v∧Rows.viewsScratchSpec.post enc Tryz.prog Tryz.f6 false true false false W args v W':=by
 have TO:=hW
 obtain ⟨p,q,UI,hV,rfl,jt,cT⟩:=hW
 have hA:DataW.TrodAll enc Tryz.prog W 0 (fun _=>true) true Tryz.f6.params.toList args.toList ds p:=UI
 rw [Tryz.params6] at hA yO
 obtain ⟨v0,Lk,d0,W8,p0,q0,bG,rfl,rfl,h0,r0⟩:=trodAll_cons hA
 obtain ⟨v1,W9,d1,Xa,p1,q1,rfl,rfl,rfl,h1,r1⟩:=trodAll_cons r0
 obtain ⟨v2,Xb,d2,Xc,p2,q2,rfl,rfl,rfl,h2,r2⟩:=trodAll_cons r1
 obtain ⟨v3,Xd,d3,Xe,p3,q3,rfl,rfl,rfl,h3,r3⟩:=trodAll_cons r2
 obtain ⟨rfl,rfl,rfl⟩:=trodAll_nil r3
 obtain rfl:args=#[v0,v1,v2,v3]:=by cases args; simp_all
 obtain ⟨rfl,rfl⟩:=trodVars_none hV
 have Wz:=okWide_slice Tryz.underlying30 (yO 0 30 v0 rfl rfl)
 obtain ⟨UJ,BY,WA⟩:=LM Wz h0
 obtain ⟨a1,rfl,rfl,rfl,UL⟩:=open_int Tryz.underlying3 (yO 1 3 v1 rfl rfl) h1
 obtain ⟨a2,rfl,rfl,rfl,UM⟩:=open_int Tryz.underlying3 (yO 2 3 v2 rfl rfl) h2
 obtain ⟨a3,rfl,rfl,rfl,UN⟩:=open_int Tryz.underlying3 (yO 3 3 v3 rfl rfl) h3
 clear UI
 simp only [List.append_nil,List.nil_append] at TO
 have TP:∀x,x∈p0→x.block<W.heap.size:=fun x hx=>TO.lt x hx
 have dr:eC (fun b=>W.heap[b]?) [pX UJ,I a1,I a2,I a3] [v0,.int .i64 a1,.int .i64 a2,.int .i64 a3]:=by
  refine ⟨rfl,fun j d v hd hv=>?_⟩
  match j,hd,hv with
  | 0,hd,hv=>simp at hd hv; subst hd; subst hv; exact BY
  | 1,hd,hv=>simp at hd hv; subst hd; subst hv; exact .int _ _
  | 2,hd,hv=>simp at hd hv; subst hd; subst hv; exact .int _ _
  | 3,hd,hv=>simp at hd hv; subst hd; subst hv; exact .int _ _
  | j+4,hd,hv=>simp at hd
 obtain ⟨ty,fr,hk⟩:=Jx hL
 letI:cQ:=⟨ty,fr⟩
 have rU:nY (fun b=>W.heap[b]?):=by
  intro j o hj
  have hj:IP j=some o:=hj
  unfold IP at hj
  cases hb:Nat.beq j 0 with
  | false=>rw [hb] at hj; cases hj
  | true =>
   rw [hb] at hj
   have:=Nat.eq_of_beq_eq_true hb
   subst this
   exact hk.trans hj
 have jC:=(Gs UJ a1 a2 a3 WA (zo UL) (zo UM) (zo UN)).2 W (fun b=>W.heap[b]?) _ (fun _ _ h=>h) rU dr
 refine Calls.mono jC fun e W' ⟨v,M',he,hb,hle,ea,lO,qs⟩=>?_
 subst he
 have WB:v=.bool true:=by
  have qs:bc M' (B true) v:=qs
  cases qs with | bool=>rfl
 subst WB
 exact ⟨_,rfl,[d0,_,_,_],[],p0,[],p0,[],TO,trodAll_mk1 (shut_bool Tryz.underlying4 _),(by
   have h4:=trodAll_cons_mk (Below.trod laidOut (by kernel_rfl) (by decide +kernel) h0 hb TP) (trodAll_cons_mk (shut_int Tryz.underlying3 UL) (trodAll_cons_mk (shut_int Tryz.underlying3 UM) (trodAll_cons_mk (shut_int Tryz.underlying3 UN) trodAll_mk0)))
   simp only [List.append_nil,List.nil_append] at h4
   exact h4),rfl,hb.frame _,fun h=>by cases h⟩
set_option maxRecDepth 100000 in
theorem lifted (os:Os) (started:os.Started) (H:Type) (enc:TypeId × Value→H) (F:Stop.Interp) :
  ReturnsInHanded {} Tryz.checked os 6 .any ((OpenSpec.ofChange Rows.viewsScratchSpec).preRow enc Tryz.prog Tryz.f6 Rows.viewsScratchRow.domain false Rows.viewsScratchRow.laid) (((OpenSpec.ofChange Rows.viewsScratchSpec).at F).post enc Tryz.prog Tryz.f6 false true false false):=by
 obtain ⟨places,hx⟩:=reads os enc
 refine returnsInHanded_of_row (C:=Tryz.checked) (s:=OpenSpec.ofChange Rows.viewsScratchSpec) own started (by kernel_rfl) Tryz.func6
  (witness_row_at (enc:=enc) (C:=Tryz.checked) false (Jy (World.holding Tryz.prog os ⟨#[],#[],[]⟩)) #[.slice none 0 0,.int .i64 0,.int .i64 0,.int .i64 0] rfl (by kernel_rfl) (by kernel_rfl) (by kernel_rfl)
   (OpenSpec.preRow_of_cond 8 hx (by kernel_rfl) (fun k hk=>by cases hk) (by kernel_rfl) (JV os))) ?_
 intro W base args ds gs before yO hW _ _ _ hL _ _
 exact JW H enc W base args ds gs before yO hW hL
theorem said:Rows.ViewsScratchSaid :=
 OpenClaim.holds_of_cond 6 Tryz.f6 rfl rfl rfl rfl rfl rfl rfl ⟨rfl,rfl,rfl,rfl,rfl⟩ rfl rfl rfl rfl rfl (by kernel_rfl) Tryz.func6 (by kernel_rfl)
  (of_decide_eq_true (by kernel_rfl)) (by unfold Func.isWrapper; first | (rw [if_pos (by decide +kernel)]; kernel_rfl) | (rw [if_neg (by decide +kernel)]; exact ⟨rfl,rfl⟩))
  (fun os started H enc _ F=>by rw [OpenClaim.pre_eq_preRow]; exact lifted os started H enc F)
theorem plain (f:FuncId) (fn:Func) (hf:Tryz.pinned.checked.prog.funcNamed "worldmint/worldmintlaw38.ViewsScratch"=some f) (WC:Tryz.pinned.checked.prog.funcs[f]?=some fn) :
  true=Tryz.pinned.checked.prog.looks []∧∀(j:Nat) t,fn.params[j]?=some t→Tryz.pinned.checked.prog.wantsStandIn t=false:=by
 obtain rfl:f=6:=Option.some.inj ((show Tryz.prog.funcNamed "worldmint/worldmintlaw38.ViewsScratch"=some 6 by kernel_rfl).symm.trans hf) |>.symm
 obtain rfl:fn=Tryz.f6:=(Option.some.inj (Tryz.func6.symm.trans WC)).symm
 refine ⟨by kernel_rfl,fun j t ht=>?_⟩
 rw [Tryz.params6] at ht
 match j,ht with
 | 0,ht=>simp at ht; subst ht; exact (show Tryz.prog.wantsStandIn 30=false by kernel_rfl)
 | 1,ht=>simp at ht; subst ht; exact (show Tryz.prog.wantsStandIn 3=false by kernel_rfl)
 | 2,ht=>simp at ht; subst ht; exact (show Tryz.prog.wantsStandIn 3=false by kernel_rfl)
 | 3,ht=>simp at ht; subst ht; exact (show Tryz.prog.wantsStandIn 3=false by kernel_rfl)
 | j+4,ht=>simp at ht
theorem vscr_proved:Rows.ViewsScratchCardSaid :=
 Claim7.holds_tied_plain_at .later [] _ _ _ _ said (fun _ h=>by cases h) (by kernel_rfl) (fun _ h=>by cases h) viewsScratch_row_tie rfl ⟨rfl,rfl⟩ (by kernel_rfl) rfl plain (by kernel_rfl)
end Go.Proofs.YtpbdohkbiklflaaGreatDoor
