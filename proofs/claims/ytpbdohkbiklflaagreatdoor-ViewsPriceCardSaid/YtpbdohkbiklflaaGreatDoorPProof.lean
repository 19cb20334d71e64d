/- ViewsPrice: for every input the law returns true. The card: the lexer's table is as the program's text lays it. -/
import Derived.Test.YtpbdohkbiklflaaGreatDoorPM33
set_option linter.unusedVariables false
set_option linter.unusedSimpArgs false
set_option linter.unusedSectionVars false
namespace Go.Proofs.YtpbdohkbiklflaaGreatDoor
open Go.TM Go.ChangeShapes Go.WideShapes Go.ChangeAt Go.RowKit
theorem LX (os:Os):laidMet Tryz.prog Rows.viewsPriceRow.laid ((Lx (World.holding Tryz.prog os ⟨#[],#[],[]⟩)).forCall (fun _ _=>0) ⟨#[],#[.slice none 0 0,.int .i64 0,.int .i64 0],[]⟩).memory :=
 laidMet_of_run' 8 (by kernel_rfl) (by kernel_rfl)
theorem reads (os:Os) {H:Type} (enc:TypeId × Value→H):∃places,DataW.whole enc Tryz.prog ((Lx (World.holding Tryz.prog os ⟨#[],#[],[]⟩)).forCall (fun _ _=>0) ⟨#[],#[.slice none 0 0,.int .i64 0,.int .i64 0],[]⟩).memory Tryz.f4.params.toList Rows.viewsPriceSpec.vars false #[Value.slice none 0 0,.int .i64 0,.int .i64 0].toList 8=some ([.nil,.lit (.int .i64 0),.lit (.int .i64 0)],[],places) :=
 ⟨[],by kernel_rfl⟩
set_option maxRecDepth 100000 in
theorem LY (H:Type) (enc:TypeId × Value→H) (W:World) (base:Nat) (args:Array Value) (ds gs:List (DataW H)) (before:List MemPlace)
  (Ca:∀(j:Nat) t v,Tryz.f4.params[j]?=some t→args[j]?=some v→Value.okWide Tryz.prog W .any base t v)
  (hW:DataW.Whole enc Tryz.prog Tryz.f4.params.toList Rows.viewsPriceSpec.vars false W args.toList ds gs before) (hL:laidMetH Tryz.prog Rows.viewsPriceRow.laid W) :
  Calls Tryz.prog 4 args W fun e W'=>∃v,e=.returned v∧Rows.viewsPriceSpec.post enc Tryz.prog Tryz.f4 false true false false W args v W':=by
 have Wp:=hW
 obtain ⟨p,q,Xm,hV,rfl,iE,c8⟩:=hW
 have hA:DataW.TrodAll enc Tryz.prog W 0 (fun _=>true) true Tryz.f4.params.toList args.toList ds p:=Xm
 rw [Tryz.params4] at hA Ca
 obtain ⟨v0,Lc,d0,ZK,p0,q0,bM,rfl,rfl,h0,r0⟩:=trodAll_cons hA
 obtain ⟨v1,ZL,d1,ZM,p1,q1,rfl,rfl,rfl,h1,r1⟩:=trodAll_cons r0
 obtain ⟨v2,ZN,d2,ZO,p2,q2,rfl,rfl,rfl,h2,r2⟩:=trodAll_cons r1
 obtain ⟨rfl,rfl,rfl⟩:=trodAll_nil r2
 obtain rfl:args=#[v0,v1,v2]:=by cases args; simp_all
 obtain ⟨rfl,rfl⟩:=trodVars_none hV
 have Zf:=okWide_slice Tryz.underlying30 (Ca 0 30 v0 rfl rfl)
 obtain ⟨Xn,DA,Zg⟩:=NR Zf h0
 obtain ⟨a1,rfl,rfl,rfl,Xo⟩:=open_int Tryz.underlying3 (Ca 1 3 v1 rfl rfl) h1
 obtain ⟨a2,rfl,rfl,rfl,Xp⟩:=open_int Tryz.underlying3 (Ca 2 3 v2 rfl rfl) h2
 clear Xm
 simp only [List.append_nil,List.nil_append] at Wp
 have Wq:∀x,x∈p0→x.block<W.heap.size:=fun x hx=>Wp.lt x hx
 have du:eQ (fun b=>W.heap[b]?) [fV Xn,I a1,I a2] [v0,.int .i64 a1,.int .i64 a2]:=by
  refine ⟨rfl,fun j d v hd hv=>?_⟩
  match j,hd,hv with
  | 0,hd,hv=>simp at hd hv; subst hd; subst hv; exact DA
  | 1,hd,hv=>simp at hd hv; subst hd; subst hv; exact .int _ _
  | 2,hd,hv=>simp at hd hv; subst hd; subst hv; exact .int _ _
  | j+3,hd,hv=>simp at hd
 obtain ⟨ty,fr,hk⟩:=Lw hL
 letI:cP:=⟨ty,fr⟩
 have pP:oP (fun b=>W.heap[b]?):=by
  intro j o hj
  have hj:KC j=some o:=hj
  unfold KC at hj
  cases hb:Nat.beq j 0 with
  | false=>rw [hb] at hj; cases hj
  | true =>
   rw [hb] at hj
   have:=Nat.eq_of_beq_eq_true hb
   subst this
   exact hk.trans hj
 have j5:=(C8 Xn a1 a2 Zg (Fo Xo) (Fo Xp)).2 W (fun b=>W.heap[b]?) _ (fun _ _ h=>h) pP du
 refine Calls.mono j5 fun e W' ⟨v,M',he,hb,hle,eo,mw,rz⟩=>?_
 subst he
 have Zh:v=.bool true:=by
  have rz:bk M' (B true) v:=rz
  cases rz with | bool=>rfl
 subst Zh
 exact ⟨_,rfl,[d0,_,_],[],p0,[],p0,[],Wp,trodAll_mk1 (shut_bool Tryz.underlying4 _),(by
   have h4:=trodAll_cons_mk (Below.trod laidOut (by kernel_rfl) (by decide +kernel) h0 hb Wq) (trodAll_cons_mk (shut_int Tryz.underlying3 Xo) (trodAll_cons_mk (shut_int Tryz.underlying3 Xp) trodAll_mk0))
   simp only [List.append_nil,List.nil_append] at h4
   exact h4),rfl,hb.frame _,fun h=>by cases h⟩
set_option maxRecDepth 100000 in
theorem lifted (os:Os) (started:os.Started) (H:Type) (enc:TypeId × Value→H) (F:Stop.Interp) :
  ReturnsInHanded {} Tryz.checked os 4 .any ((OpenSpec.ofChange Rows.viewsPriceSpec).preRow enc Tryz.prog Tryz.f4 Rows.viewsPriceRow.domain false Rows.viewsPriceRow.laid) (((OpenSpec.ofChange Rows.viewsPriceSpec).at F).post enc Tryz.prog Tryz.f4 false true false false):=by
 obtain ⟨places,hx⟩:=reads os enc
 refine returnsInHanded_of_row (C:=Tryz.checked) (s:=OpenSpec.ofChange Rows.viewsPriceSpec) own started (by kernel_rfl) Tryz.func4
  (witness_row_at (enc:=enc) (C:=Tryz.checked) false (Lx (World.holding Tryz.prog os ⟨#[],#[],[]⟩)) #[.slice none 0 0,.int .i64 0,.int .i64 0] rfl (by kernel_rfl) (by kernel_rfl) (by kernel_rfl)
   (OpenSpec.preRow_of_cond 8 hx (by kernel_rfl) (fun k hk=>by cases hk) (by kernel_rfl) (LX os))) ?_
 intro W base args ds gs before Ca hW _ _ _ hL _ _
 exact LY H enc W base args ds gs before Ca hW hL
theorem said:Rows.ViewsPriceSaid :=
 OpenClaim.holds_of_cond 4 Tryz.f4 rfl rfl rfl rfl rfl rfl rfl ⟨rfl,rfl,rfl,rfl,rfl⟩ rfl rfl rfl rfl rfl (by kernel_rfl) Tryz.func4 (by kernel_rfl)
  (of_decide_eq_true (by kernel_rfl)) (by unfold Func.isWrapper; first | (rw [if_pos (by decide +kernel)]; kernel_rfl) | (rw [if_neg (by decide +kernel)]; exact ⟨rfl,rfl⟩))
  (fun os started H enc _ F=>by rw [OpenClaim.pre_eq_preRow]; exact lifted os started H enc F)
theorem plain (f:FuncId) (fn:Func) (hf:Tryz.pinned.checked.prog.funcNamed "worldmint/worldmintlaw38.ViewsPrice"=some f) (Zi:Tryz.pinned.checked.prog.funcs[f]?=some fn) :
  true=Tryz.pinned.checked.prog.looks []∧∀(j:Nat) t,fn.params[j]?=some t→Tryz.pinned.checked.prog.wantsStandIn t=false:=by
 obtain rfl:f=4:=Option.some.inj ((show Tryz.prog.funcNamed "worldmint/worldmintlaw38.ViewsPrice"=some 4 by kernel_rfl).symm.trans hf) |>.symm
 obtain rfl:fn=Tryz.f4:=(Option.some.inj (Tryz.func4.symm.trans Zi)).symm
 refine ⟨by kernel_rfl,fun j t ht=>?_⟩
 rw [Tryz.params4] at ht
 match j,ht with
 | 0,ht=>simp at ht; subst ht; exact (show Tryz.prog.wantsStandIn 30=false by kernel_rfl)
 | 1,ht=>simp at ht; subst ht; exact (show Tryz.prog.wantsStandIn 3=false by kernel_rfl)
 | 2,ht=>simp at ht; subst ht; exact (show Tryz.prog.wantsStandIn 3=false by kernel_rfl)
 | j+3,ht=>simp at ht
theorem vprice_proved:Rows.ViewsPriceCardSaid :=
 Claim7.holds_tied_plain_at .later [] _ _ _ _ said (fun _ h=>by cases h) (by kernel_rfl) (fun _ h=>by cases h) viewsPrice_row_tie rfl ⟨rfl,rfl⟩ (by kernel_rfl) rfl plain (by kernel_rfl)
end Go.Proofs.YtpbdohkbiklflaaGreatDoor
