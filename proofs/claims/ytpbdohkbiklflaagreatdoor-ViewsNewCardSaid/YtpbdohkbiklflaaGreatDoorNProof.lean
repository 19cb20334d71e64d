/- ViewsNew: for every input the law returns true. The card: the lexer's table is as the program's text lays it. -/
import Derived.Test.YtpbdohkbiklflaaGreatDoorNM28
set_option linter.unusedVariables false
set_option linter.unusedSimpArgs false
set_option linter.unusedSectionVars false
namespace Go.Proofs.YtpbdohkbiklflaaGreatDoor
open Go.TM Go.ChangeShapes Go.WideShapes Go.ChangeAt Go.RowKit
theorem laid_met (os:Os):laidMet Tryz.prog Rows.viewsNewRow.laid ((laidW (World.holding Tryz.prog os ⟨#[],#[],[]⟩)).forCall (fun _ _=>0) ⟨#[],#[.int .i64 0,.int .i64 0,.int .i64 0,.int .i64 0],[]⟩).memory :=
 laidMet_of_run' 8 (by kernel_rfl) (by kernel_rfl)
theorem reads (os:Os) {H:Type} (enc:TypeId × Value→H):∃places,DataW.whole enc Tryz.prog ((laidW (World.holding Tryz.prog os ⟨#[],#[],[]⟩)).forCall (fun _ _=>0) ⟨#[],#[.int .i64 0,.int .i64 0,.int .i64 0,.int .i64 0],[]⟩).memory Tryz.f3.params.toList Rows.viewsNewSpec.vars false #[Value.int .i64 0,.int .i64 0,.int .i64 0,.int .i64 0].toList 8=some ([.lit (.int .i64 0),.lit (.int .i64 0),.lit (.int .i64 0),.lit (.int .i64 0)],[],places) :=
 ⟨[],by kernel_rfl⟩
set_option maxRecDepth 100000 in
theorem contract (H:Type) (enc:TypeId × Value→H) (W:World) (base:Nat) (args:Array Value) (ds gs:List (DataW H)) (before:List MemPlace)
  (hval:∀(j:Nat) t v,Tryz.f3.params[j]?=some t→args[j]?=some v→Value.okWide Tryz.prog W .any base t v)
  (hW:DataW.Whole enc Tryz.prog Tryz.f3.params.toList Rows.viewsNewSpec.vars false W args.toList ds gs before) (hL:laidMetH Tryz.prog Rows.viewsNewRow.laid W) :
  Calls Tryz.prog 3 args W fun e W'=>∃v,e=.returned v∧Rows.viewsNewSpec.post enc Tryz.prog Tryz.f3 false true false false W args v W':=by
 have hW':=hW
 obtain ⟨p,q,hA0,hV,rfl,hfz,hnd⟩:=hW
 have hA:DataW.TrodAll enc Tryz.prog W 0 (fun _=>true) true Tryz.f3.params.toList args.toList ds p:=hA0
 rw [Tryz.params3] at hA hval
 obtain ⟨v0,vs0,d0,ds0,p0,q0,hargs,rfl,rfl,h0,r0⟩:=trodAll_cons hA
 obtain ⟨v1,vs1,d1,ds1,p1,q1,rfl,rfl,rfl,h1,r1⟩:=trodAll_cons r0
 obtain ⟨v2,vs2,d2,ds2,p2,q2,rfl,rfl,rfl,h2,r2⟩:=trodAll_cons r1
 obtain ⟨v3,vs3,d3,ds3,p3,q3,rfl,rfl,rfl,h3,r3⟩:=trodAll_cons r2
 obtain ⟨rfl,rfl,rfl⟩:=trodAll_nil r3
 obtain rfl:args=#[v0,v1,v2,v3]:=by cases args; simp_all
 obtain ⟨rfl,rfl⟩:=trodVars_none hV
 obtain ⟨a0,rfl,rfl,rfl,wa0⟩:=open_int Tryz.underlying3 (hval 0 3 v0 rfl rfl) h0
 obtain ⟨a1,rfl,rfl,rfl,wa1⟩:=open_int Tryz.underlying3 (hval 1 3 v1 rfl rfl) h1
 obtain ⟨a2,rfl,rfl,rfl,wa2⟩:=open_int Tryz.underlying3 (hval 2 3 v2 rfl rfl) h2
 obtain ⟨a3,rfl,rfl,rfl,wa3⟩:=open_int Tryz.underlying3 (hval 3 3 v3 rfl rfl) h3
 clear hA0
 simp only [List.append_nil,List.nil_append] at hW'
 have hrel:DRels (fun b=>W.heap[b]?) [I a0,I a1,I a2,I a3] [.int .i64 a0,.int .i64 a1,.int .i64 a2,.int .i64 a3]:=by
  refine ⟨rfl,fun j d v hd hv=>?_⟩
  match j,hd,hv with
  | 0,hd,hv=>simp at hd hv; subst hd; subst hv; exact .int _ _
  | 1,hd,hv=>simp at hd hv; subst hd; subst hv; exact .int _ _
  | 2,hd,hv=>simp at hd hv; subst hd; subst hv; exact .int _ _
  | 3,hd,hv=>simp at hd hv; subst hd; subst hv; exact .int _ _
  | j+4,hd,hv=>simp at hd
 obtain ⟨ty,fr,hk⟩:=kinds_of hL
 letI:KObj:=⟨ty,fr⟩
 have hgl:GlobIn (fun b=>W.heap[b]?):=by
  intro j o hj
  have hj:kObj j=some o:=hj
  unfold kObj at hj
  cases hb:Nat.beq j 0 with
  | false=>rw [hb] at hj; cases hj
  | true =>
   rw [hb] at hj
   have:=Nat.eq_of_beq_eq_true hb
   subst this
   exact hk.trans hj
 have hcall:=(vnew_spec a0 a1 a2 a3 (in_i64 wa0) (in_i64 wa1) (in_i64 wa2) (in_i64 wa3)).2 W (fun b=>W.heap[b]?) _ (fun _ _ h=>h) hgl hrel
 refine Calls.mono hcall fun e W' ⟨v,M',he,hb,hle,hin,hsame,hres⟩=>?_
 subst he
 have hvt:v=.bool true:=by
  have hres:DRel M' (B true) v:=hres
  cases hres with | bool=>rfl
 subst hvt
 exact ⟨_,rfl,[_,_,_,_],[],[],[],[],[],hW',trodAll_mk1 (shut_bool Tryz.underlying4 _),(by
   exact trodAll_cons_mk (shut_int Tryz.underlying3 wa0) (trodAll_cons_mk (shut_int Tryz.underlying3 wa1) (trodAll_cons_mk (shut_int Tryz.underlying3 wa2) (trodAll_cons_mk (shut_int Tryz.underlying3 wa3) trodAll_mk0)))),rfl,hb.frame _,fun h=>by cases h⟩
set_option maxRecDepth 100000 in
theorem lifted (os:Os) (started:os.Started) (H:Type) (enc:TypeId × Value→H) (F:Stop.Interp) :
  ReturnsInHanded {} Tryz.checked os 3 .any ((OpenSpec.ofChange Rows.viewsNewSpec).preRow enc Tryz.prog Tryz.f3 Rows.viewsNewRow.domain false Rows.viewsNewRow.laid) (((OpenSpec.ofChange Rows.viewsNewSpec).at F).post enc Tryz.prog Tryz.f3 false true false false):=by
 obtain ⟨places,hx⟩:=reads os enc
 refine returnsInHanded_of_row (C:=Tryz.checked) (s:=OpenSpec.ofChange Rows.viewsNewSpec) own started (by kernel_rfl) Tryz.func3
  (witness_row_at (enc:=enc) (C:=Tryz.checked) false (laidW (World.holding Tryz.prog os ⟨#[],#[],[]⟩)) #[.int .i64 0,.int .i64 0,.int .i64 0,.int .i64 0] rfl (by kernel_rfl) (by kernel_rfl) (by kernel_rfl)
   (OpenSpec.preRow_of_cond 8 hx (by kernel_rfl) (fun k hk=>by cases hk) (by kernel_rfl) (laid_met os))) ?_
 intro W base args ds gs before hval hW _ _ _ hL _ _
 exact contract H enc W base args ds gs before hval hW hL
theorem said:Rows.ViewsNewSaid :=
 OpenClaim.holds_of_cond 3 Tryz.f3 rfl rfl rfl rfl rfl rfl rfl ⟨rfl,rfl,rfl,rfl,rfl⟩ rfl rfl rfl rfl rfl (by kernel_rfl) Tryz.func3 (by kernel_rfl)
  (of_decide_eq_true (by kernel_rfl)) (by unfold Func.isWrapper; first | (rw [if_pos (by decide +kernel)]; kernel_rfl) | (rw [if_neg (by decide +kernel)]; exact ⟨rfl,rfl⟩))
  (fun os started H enc _ F=>by rw [OpenClaim.pre_eq_preRow]; exact lifted os started H enc F)
theorem plain (f:FuncId) (fn:Func) (hf:Tryz.pinned.checked.prog.funcNamed "worldmint/worldmintlaw38.ViewsNew"=some f) (hfn:Tryz.pinned.checked.prog.funcs[f]?=some fn) :
  true=Tryz.pinned.checked.prog.looks []∧∀(j:Nat) t,fn.params[j]?=some t→Tryz.pinned.checked.prog.wantsStandIn t=false:=by
 obtain rfl:f=3:=Option.some.inj ((show Tryz.prog.funcNamed "worldmint/worldmintlaw38.ViewsNew"=some 3 by kernel_rfl).symm.trans hf) |>.symm
 obtain rfl:fn=Tryz.f3:=(Option.some.inj (Tryz.func3.symm.trans hfn)).symm
 refine ⟨by kernel_rfl,fun j t ht=>?_⟩
 rw [Tryz.params3] at ht
 match j,ht with
 | 0,ht=>simp at ht; subst ht; exact (show Tryz.prog.wantsStandIn 3=false by kernel_rfl)
 | 1,ht=>simp at ht; subst ht; exact (show Tryz.prog.wantsStandIn 3=false by kernel_rfl)
 | 2,ht=>simp at ht; subst ht; exact (show Tryz.prog.wantsStandIn 3=false by kernel_rfl)
 | 3,ht=>simp at ht; subst ht; exact (show Tryz.prog.wantsStandIn 3=false by kernel_rfl)
 | j+4,ht=>simp at ht
theorem vnew_proved:Rows.ViewsNewCardSaid :=
 Claim7.holds_tied_plain_at .later [] _ _ _ _ said (fun _ h=>by cases h) (by kernel_rfl) (fun _ h=>by cases h) viewsNew_row_tie rfl ⟨rfl,rfl⟩ (by kernel_rfl) rfl plain (by kernel_rfl)
end Go.Proofs.YtpbdohkbiklflaaGreatDoor
