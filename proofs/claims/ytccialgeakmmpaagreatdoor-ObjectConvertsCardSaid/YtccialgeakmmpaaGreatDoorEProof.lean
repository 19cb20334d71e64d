/- ObjectConverts: for every input the law returns true. The card: the lexer's table is as the program's text lays it. -/
import Derived.Test.YtccialgeakmmpaaGreatDoorEM24
set_option linter.unusedVariables false
set_option linter.unusedSimpArgs false
set_option linter.unusedSectionVars false
namespace Go.Proofs.YtccialgeakmmpaaGreatDoor
open Go.TM Go.ChangeShapes Go.WideShapes Go.ChangeAt Go.RowKit
theorem laid_met (os:Os):laidMet Tryz.prog Rows.objectConvertsRow.laid ((laidW (World.holding Tryz.prog os ⟨#[],#[],[]⟩)).forCall (fun _ _=>0) ⟨#[],#[.int .i64 0,.int .i64 0,.slice none 0 0,.slice none 0 0,.int .i64 0],[]⟩).memory :=
 laidMet_of_run' 8 (by kernel_rfl) (by kernel_rfl)
theorem reads (os:Os) {H:Type} (enc:TypeId × Value→H):∃places,DataW.whole enc Tryz.prog ((laidW (World.holding Tryz.prog os ⟨#[],#[],[]⟩)).forCall (fun _ _=>0) ⟨#[],#[.int .i64 0,.int .i64 0,.slice none 0 0,.slice none 0 0,.int .i64 0],[]⟩).memory Tryz.f3.params.toList Rows.objectConvertsSpec.vars false #[Value.int .i64 0,.int .i64 0,.slice none 0 0,.slice none 0 0,.int .i64 0].toList 8=some ([.lit (.int .i64 0),.lit (.int .i64 0),.nil,.nil,.lit (.int .i64 0)],[],places) :=
 ⟨[],by kernel_rfl⟩
set_option maxRecDepth 100000 in
theorem contract (H:Type) (enc:TypeId × Value→H) (W:World) (base:Nat) (args:Array Value) (ds gs:List (DataW H)) (before:List MemPlace)
  (hval:∀(j:Nat) t v,Tryz.f3.params[j]?=some t→args[j]?=some v→Value.okWide Tryz.prog W .any base t v)
  (hW:DataW.Whole enc Tryz.prog Tryz.f3.params.toList Rows.objectConvertsSpec.vars false W args.toList ds gs before) (hL:laidMetH Tryz.prog Rows.objectConvertsRow.laid W) :
  Calls Tryz.prog 3 args W fun e W'=>∃v,e=.returned v∧Rows.objectConvertsSpec.post enc Tryz.prog Tryz.f3 false true false false W args v W':=by
 have hW':=hW
 obtain ⟨p,q,hA0,hV,rfl,hfz,hnd⟩:=hW
 have hA:DataW.TrodAll enc Tryz.prog W 0 (fun _=>true) true Tryz.f3.params.toList args.toList ds p:=hA0
 rw [Tryz.params3] at hA hval
 obtain ⟨v0,vs0,d0,ds0,p0,q0,hargs,rfl,rfl,h0,r0⟩:=trodAll_cons hA
 obtain ⟨v1,vs1,d1,ds1,p1,q1,rfl,rfl,rfl,h1,r1⟩:=trodAll_cons r0
 obtain ⟨v2,vs2,d2,ds2,p2,q2,rfl,rfl,rfl,h2,r2⟩:=trodAll_cons r1
 obtain ⟨v3,vs3,d3,ds3,p3,q3,rfl,rfl,rfl,h3,r3⟩:=trodAll_cons r2
 obtain ⟨v4,vs4,d4,ds4,p4,q4,rfl,rfl,rfl,h4,r4⟩:=trodAll_cons r3
 obtain ⟨rfl,rfl,rfl⟩:=trodAll_nil r4
 obtain rfl:args=#[v0,v1,v2,v3,v4]:=by cases args; simp_all
 obtain ⟨rfl,rfl⟩:=trodVars_none hV
 have hs2:=okWide_slice Tryz.underlying22 (hval 2 22 v2 rfl rfl)
 obtain ⟨zs2,hz2,-⟩:=ints_of hs2 h2
 have hs3:=okWide_slice Tryz.underlying22 (hval 3 22 v3 rfl rfl)
 obtain ⟨zs3,hz3,-⟩:=ints_of hs3 h3
 obtain ⟨a0,rfl,rfl,rfl,wa0⟩:=open_int Tryz.underlying3 (hval 0 3 v0 rfl rfl) h0
 obtain ⟨a1,rfl,rfl,rfl,wa1⟩:=open_int Tryz.underlying3 (hval 1 3 v1 rfl rfl) h1
 obtain ⟨a4,rfl,rfl,rfl,wa4⟩:=open_int Tryz.underlying3 (hval 4 3 v4 rfl rfl) h4
 clear hA0
 simp only [List.append_nil,List.nil_append] at hW'
 have hlt2:∀x,x∈p2→x.block<W.heap.size:=fun x hx=>hW'.lt x (List.mem_append.2 (.inl hx))
 have hlt3:∀x,x∈p3→x.block<W.heap.size:=fun x hx=>hW'.lt x (List.mem_append.2 (.inr hx))
 have hrel:DRels (fun b=>W.heap[b]?) [I a0,I a1,Ints zs2,Ints zs3,I a4] [.int .i64 a0,.int .i64 a1,v2,v3,.int .i64 a4]:=by
  refine ⟨rfl,fun j d v hd hv=>?_⟩
  match j,hd,hv with
  | 0,hd,hv=>simp at hd hv; subst hd; subst hv; exact .int _ _
  | 1,hd,hv=>simp at hd hv; subst hd; subst hv; exact .int _ _
  | 2,hd,hv=>simp at hd hv; subst hd; subst hv; exact hz2
  | 3,hd,hv=>simp at hd hv; subst hd; subst hv; exact hz3
  | 4,hd,hv=>simp at hd hv; subst hd; subst hv; exact .int _ _
  | j+5,hd,hv=>simp at hd
 obtain ⟨ty,fr,hk⟩:=kinds_of hL
 letI:KObj:=⟨ty,fr⟩
 have hgl:GlobIn (fun b=>W.heap[b]?):=by
  intro j o hj
  have hj:kObj j=some o:=hj
  unfold kObj at hj
  cases hb:Nat.beq j 2 with
  | false=>rw [hb] at hj; cases hj
  | true =>
   rw [hb] at hj
   have:=Nat.eq_of_beq_eq_true hb
   subst this
   exact hk.trans hj
 have hcall:=(converts_all a0 a1 zs2 zs3 a4 (in_i64 wa0)).2 W (fun b=>W.heap[b]?) _ (fun _ _ h=>h) hgl hrel
 refine Calls.mono hcall fun e W' ⟨v,M',he,hb,hle,hin,hsame,hres⟩=>?_
 subst he
 have hvt:v=.bool true:=by
  have hres:DRel M' (B true) v:=hres
  cases hres with | bool=>rfl
 subst hvt
 exact ⟨_,rfl,[_,_,d2,d3,_],[],p2++p3,[],p2++p3,[],hW',trodAll_mk1 (shut_bool Tryz.underlying4 _),(by
   have h4:=trodAll_cons_mk (shut_int Tryz.underlying3 wa0) (trodAll_cons_mk (shut_int Tryz.underlying3 wa1) (trodAll_cons_mk (Below.trod laidOut (by kernel_rfl) (by decide +kernel) h2 hb hlt2) (trodAll_cons_mk (Below.trod laidOut (by kernel_rfl) (by decide +kernel) h3 hb hlt3) (trodAll_cons_mk (shut_int Tryz.underlying3 wa4) trodAll_mk0))))
   simp only [List.append_nil,List.nil_append] at h4
   exact h4),rfl,hb.frame _,fun h=>by cases h⟩
set_option maxRecDepth 100000 in
theorem lifted (os:Os) (started:os.Started) (H:Type) (enc:TypeId × Value→H) (F:Stop.Interp) :
  ReturnsInHanded {} Tryz.checked os 3 .any ((OpenSpec.ofChange Rows.objectConvertsSpec).preRow enc Tryz.prog Tryz.f3 Rows.objectConvertsRow.domain false Rows.objectConvertsRow.laid) (((OpenSpec.ofChange Rows.objectConvertsSpec).at F).post enc Tryz.prog Tryz.f3 false true false false):=by
 obtain ⟨places,hx⟩:=reads os enc
 refine returnsInHanded_of_row (C:=Tryz.checked) (s:=OpenSpec.ofChange Rows.objectConvertsSpec) own started (by kernel_rfl) Tryz.func3
  (witness_row_at (enc:=enc) (C:=Tryz.checked) false (laidW (World.holding Tryz.prog os ⟨#[],#[],[]⟩)) #[.int .i64 0,.int .i64 0,.slice none 0 0,.slice none 0 0,.int .i64 0] rfl (by kernel_rfl) (by kernel_rfl) (by kernel_rfl)
   (OpenSpec.preRow_of_cond 8 hx (by kernel_rfl) (fun k hk=>by cases hk) (by kernel_rfl) (laid_met os))) ?_
 intro W base args ds gs before hval hW _ _ _ hL _ _
 exact contract H enc W base args ds gs before hval hW hL
theorem said:Rows.ObjectConvertsSaid :=
 OpenClaim.holds_of_cond 3 Tryz.f3 rfl rfl rfl rfl rfl rfl rfl ⟨rfl,rfl,rfl,rfl,rfl⟩ rfl rfl rfl rfl rfl (by kernel_rfl) Tryz.func3 (by kernel_rfl)
  (of_decide_eq_true (by kernel_rfl)) (by unfold Func.isWrapper; first | (rw [if_pos (by decide +kernel)]; kernel_rfl) | (rw [if_neg (by decide +kernel)]; exact ⟨rfl,rfl⟩))
  (fun os started H enc _ F=>by rw [OpenClaim.pre_eq_preRow]; exact lifted os started H enc F)
theorem plain (f:FuncId) (fn:Func) (hf:Tryz.pinned.checked.prog.funcNamed "worldmint/worldmintlaw17.ObjectConverts"=some f) (hfn:Tryz.pinned.checked.prog.funcs[f]?=some fn) :
  false=Tryz.pinned.checked.prog.looks []∧∀(j:Nat) t,fn.params[j]?=some t→Tryz.pinned.checked.prog.wantsStandIn t=false:=by
 obtain rfl:f=3:=Option.some.inj ((show Tryz.prog.funcNamed "worldmint/worldmintlaw17.ObjectConverts"=some 3 by kernel_rfl).symm.trans hf) |>.symm
 obtain rfl:fn=Tryz.f3:=(Option.some.inj (Tryz.func3.symm.trans hfn)).symm
 refine ⟨by kernel_rfl,fun j t ht=>?_⟩
 rw [Tryz.params3] at ht
 match j,ht with
 | 0,ht=>simp at ht; subst ht; exact (show Tryz.prog.wantsStandIn 3=false by kernel_rfl)
 | 1,ht=>simp at ht; subst ht; exact (show Tryz.prog.wantsStandIn 3=false by kernel_rfl)
 | 2,ht=>simp at ht; subst ht; exact (show Tryz.prog.wantsStandIn 22=false by kernel_rfl)
 | 3,ht=>simp at ht; subst ht; exact (show Tryz.prog.wantsStandIn 22=false by kernel_rfl)
 | 4,ht=>simp at ht; subst ht; exact (show Tryz.prog.wantsStandIn 3=false by kernel_rfl)
 | j+5,ht=>simp at ht
theorem converts_proved:Rows.ObjectConvertsCardSaid :=
 Claim7.holds_tied_plain_at .later [] _ _ _ _ said (fun _ h=>by cases h) (by kernel_rfl) (fun _ h=>by cases h) objectConverts_row_tie rfl ⟨rfl,rfl⟩ (by kernel_rfl) rfl plain (by kernel_rfl)
end Go.Proofs.YtccialgeakmmpaaGreatDoor
