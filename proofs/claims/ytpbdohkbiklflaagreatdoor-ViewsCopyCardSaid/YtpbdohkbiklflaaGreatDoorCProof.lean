/- ViewsCopy: for every input the law returns true. The card: the lexer's table is as the program's text lays it. -/
import Derived.Test.YtpbdohkbiklflaaGreatDoorCM36
set_option linter.unusedVariables false
set_option linter.unusedSimpArgs false
set_option linter.unusedSectionVars false
namespace Go.Proofs.YtpbdohkbiklflaaGreatDoor
open Go.TM Go.ChangeShapes Go.WideShapes Go.ChangeAt Go.RowKit
theorem NM (os:Os):laidMet Tryz.prog Rows.viewsCopyRow.laid ((No (World.holding Tryz.prog os ⟨#[],#[],[]⟩)).forCall (fun _ _=>0) ⟨#[],#[.slice none 0 0,.slice none 0 0,.int .i64 0,.int .i64 0],[]⟩).memory :=
 laidMet_of_run' 8 (by kernel_rfl) (by kernel_rfl)
theorem reads (os:Os) {H:Type} (enc:TypeId × Value→H):∃places,DataW.whole enc Tryz.prog ((No (World.holding Tryz.prog os ⟨#[],#[],[]⟩)).forCall (fun _ _=>0) ⟨#[],#[.slice none 0 0,.slice none 0 0,.int .i64 0,.int .i64 0],[]⟩).memory Tryz.f8.params.toList Rows.viewsCopySpec.vars false #[Value.slice none 0 0,.slice none 0 0,.int .i64 0,.int .i64 0].toList 8=some ([.nil,.nil,.lit (.int .i64 0),.lit (.int .i64 0)],[],places) :=
 ⟨[],by kernel_rfl⟩
set_option maxRecDepth 100000 in
theorem NN (H:Type) (enc:TypeId × Value→H) (W:World) (base:Nat) (args:Array Value) (ds gs:List (DataW H)) (before:List MemPlace)
  (Bd:∀(j:Nat) t v,Tryz.f8.params[j]?=some t→args[j]?=some v→Value.okWide Tryz.prog W .any base t v)
  (hW:DataW.Whole enc Tryz.prog Tryz.f8.params.toList Rows.viewsCopySpec.vars false W args.toList ds gs before) (hL:laidMetH Tryz.prog Rows.viewsCopyRow.laid W) :
  Calls Tryz.prog 8 args W fun e W'=>∃v,e=.returned v∧Rows.viewsCopySpec.post enc Tryz.prog Tryz.f8 false true false false W args v W':=by
 have Wp:=hW
 obtain ⟨p,q,ZA,hV,rfl,iF,c9⟩:=hW
 have hA:DataW.TrodAll enc Tryz.prog W 0 (fun _=>true) true Tryz.f8.params.toList args.toList ds p:=ZA
 rw [Tryz.params8] at hA Bd
 obtain ⟨v0,MU,d0,ds0,p0,q0,bM,rfl,rfl,h0,r0⟩:=trodAll_cons hA
 obtain ⟨v1,vs1,d1,ds1,p1,q1,rfl,rfl,rfl,h1,r1⟩:=trodAll_cons r0
 obtain ⟨v2,vs2,d2,ds2,p2,q2,rfl,rfl,rfl,h2,r2⟩:=trodAll_cons r1
 obtain ⟨v3,vs3,d3,ds3,p3,q3,rfl,rfl,rfl,h3,r3⟩:=trodAll_cons r2
 obtain ⟨rfl,rfl,rfl⟩:=trodAll_nil r3
 obtain rfl:args=#[v0,v1,v2,v3]:=by cases args; simp_all
 obtain ⟨rfl,rfl⟩:=trodVars_none hV
 have hs0:=okWide_slice Tryz.underlying30 (Bd 0 30 v0 rfl rfl)
 obtain ⟨ZB,EL,hy0⟩:=IH hs0 h0
 have fh:=okWide_slice Tryz.underlying30 (Bd 1 30 v1 rfl rfl)
 obtain ⟨ZC,EO,hy1⟩:=IH fh h1
 obtain ⟨a2,rfl,rfl,rfl,ZD⟩:=open_int Tryz.underlying3 (Bd 2 3 v2 rfl rfl) h2
 obtain ⟨a3,rfl,rfl,rfl,ZE⟩:=open_int Tryz.underlying3 (Bd 3 3 v3 rfl rfl) h3
 clear ZA
 simp only [List.append_nil,List.nil_append] at Wp
 have YA:∀x,x∈p0→x.block<W.heap.size:=fun x hx=>Wp.lt x (List.mem_append.2 (.inl hx))
 have YB:∀x,x∈p1→x.block<W.heap.size:=fun x hx=>Wp.lt x (List.mem_append.2 (.inr hx))
 have dg:eX (fun b=>W.heap[b]?) [eE ZB,eE ZC,I a2,I a3] [v0,v1,.int .i64 a2,.int .i64 a3]:=by
  refine ⟨rfl,fun j d v hd hv=>?_⟩
  match j,hd,hv with
  | 0,hd,hv=>simp at hd hv; subst hd; subst hv; exact EL
  | 1,hd,hv=>simp at hd hv; subst hd; subst hv; exact EO
  | 2,hd,hv=>simp at hd hv; subst hd; subst hv; exact .int _ _
  | 3,hd,hv=>simp at hd hv; subst hd; subst hv; exact .int _ _
  | j+4,hd,hv=>simp at hd
 obtain ⟨ty,fr,hk⟩:=Nn hL
 letI:cG:=⟨ty,fr⟩
 have oH:pE (fun b=>W.heap[b]?):=by
  intro j o hj
  have hj:Mp j=some o:=hj
  unfold Mp at hj
  cases hb:Nat.beq j 0 with
  | false=>rw [hb] at hj; cases hj
  | true =>
   rw [hb] at hj
   have:=Nat.eq_of_beq_eq_true hb
   subst this
   exact hk.trans hj
 have ko:=(GQ ZB ZC a2 a3 hy0 hy1 (GS ZD) (GS ZE)).2 W (fun b=>W.heap[b]?) _ (fun _ _ h=>h) oH dg
 refine Calls.mono ko fun e W' ⟨v,M',he,hb,hle,eB,mS,sm⟩=>?_
 subst he
 have hvt:v=.bool true:=by
  have sm:bo M' (B true) v:=sm
  cases sm with | bool=>rfl
 subst hvt
 exact ⟨_,rfl,[d0,d1,_,_],[],p0++p1,[],p0++p1,[],Wp,trodAll_mk1 (shut_bool Tryz.underlying4 _),(by
   have h4:=trodAll_cons_mk (Below.trod laidOut (by kernel_rfl) (by decide +kernel) h0 hb YA) (trodAll_cons_mk (Below.trod laidOut (by kernel_rfl) (by decide +kernel) h1 hb YB) (trodAll_cons_mk (shut_int Tryz.underlying3 ZD) (trodAll_cons_mk (shut_int Tryz.underlying3 ZE) trodAll_mk0)))
   simp only [List.append_nil,List.nil_append] at h4
   exact h4),rfl,hb.frame _,fun h=>by cases h⟩
set_option maxRecDepth 100000 in
theorem lifted (os:Os) (started:os.Started) (H:Type) (enc:TypeId × Value→H) (F:Stop.Interp) :
  ReturnsInHanded {} Tryz.checked os 8 .any ((OpenSpec.ofChange Rows.viewsCopySpec).preRow enc Tryz.prog Tryz.f8 Rows.viewsCopyRow.domain false Rows.viewsCopyRow.laid) (((OpenSpec.ofChange Rows.viewsCopySpec).at F).post enc Tryz.prog Tryz.f8 false true false false):=by
 obtain ⟨places,hx⟩:=reads os enc
 refine returnsInHanded_of_row (C:=Tryz.checked) (s:=OpenSpec.ofChange Rows.viewsCopySpec) own started (by kernel_rfl) Tryz.func8
  (witness_row_at (enc:=enc) (C:=Tryz.checked) false (No (World.holding Tryz.prog os ⟨#[],#[],[]⟩)) #[.slice none 0 0,.slice none 0 0,.int .i64 0,.int .i64 0] rfl (by kernel_rfl) (by kernel_rfl) (by kernel_rfl)
   (OpenSpec.preRow_of_cond 8 hx (by kernel_rfl) (fun k hk=>by cases hk) (by kernel_rfl) (NM os))) ?_
 intro W base args ds gs before Bd hW _ _ _ hL _ _
 exact NN H enc W base args ds gs before Bd hW hL
theorem said:Rows.ViewsCopySaid :=
 OpenClaim.holds_of_cond 8 Tryz.f8 rfl rfl rfl rfl rfl rfl rfl ⟨rfl,rfl,rfl,rfl,rfl⟩ rfl rfl rfl rfl rfl (by kernel_rfl) Tryz.func8 (by kernel_rfl)
  (of_decide_eq_true (by kernel_rfl)) (by unfold Func.isWrapper; first | (rw [if_pos (by decide +kernel)]; kernel_rfl) | (rw [if_neg (by decide +kernel)]; exact ⟨rfl,rfl⟩))
  (fun os started H enc _ F=>by rw [OpenClaim.pre_eq_preRow]; exact lifted os started H enc F)
theorem plain (f:FuncId) (fn:Func) (hf:Tryz.pinned.checked.prog.funcNamed "worldmint/worldmintlaw38.ViewsCopy"=some f) (hfn:Tryz.pinned.checked.prog.funcs[f]?=some fn) :
  true=Tryz.pinned.checked.prog.looks []∧∀(j:Nat) t,fn.params[j]?=some t→Tryz.pinned.checked.prog.wantsStandIn t=false:=by
 obtain rfl:f=8:=Option.some.inj ((show Tryz.prog.funcNamed "worldmint/worldmintlaw38.ViewsCopy"=some 8 by kernel_rfl).symm.trans hf) |>.symm
 obtain rfl:fn=Tryz.f8:=(Option.some.inj (Tryz.func8.symm.trans hfn)).symm
 refine ⟨by kernel_rfl,fun j t ht=>?_⟩
 rw [Tryz.params8] at ht
 match j,ht with
 | 0,ht=>simp at ht; subst ht; exact (show Tryz.prog.wantsStandIn 30=false by kernel_rfl)
 | 1,ht=>simp at ht; subst ht; exact (show Tryz.prog.wantsStandIn 30=false by kernel_rfl)
 | 2,ht=>simp at ht; subst ht; exact (show Tryz.prog.wantsStandIn 3=false by kernel_rfl)
 | 3,ht=>simp at ht; subst ht; exact (show Tryz.prog.wantsStandIn 3=false by kernel_rfl)
 | j+4,ht=>simp at ht
theorem vcopy_proved:Rows.ViewsCopyCardSaid :=
 Claim7.holds_tied_plain_at .later [] _ _ _ _ said (fun _ h=>by cases h) (by kernel_rfl) (fun _ h=>by cases h) viewsCopy_row_tie rfl ⟨rfl,rfl⟩ (by kernel_rfl) rfl plain (by kernel_rfl)
end Go.Proofs.YtpbdohkbiklflaaGreatDoor
