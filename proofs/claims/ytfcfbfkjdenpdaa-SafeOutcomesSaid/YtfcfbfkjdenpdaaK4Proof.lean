/- SafeOutcomes: for every input the law returns true. -/
import Derived.Test.YtfcfbfkjdenpdaaK4Q18
import Derived.Test.YtfcfbfkjdenpdaaRows
import Derived.WalkKit
import Derived.ProofKit
import Derived.OpenShut
import Derived.JoinedCond
import Derived.Carry
import Derived.ChangeSlices
set_option linter.unusedVariables false
set_option linter.unusedSimpArgs false
set_option linter.unusedSectionVars false
namespace Go.Proofs.Ytfcfbfkjdenpdaa
open Go.TM Go.ChangeShapes Go.WideShapes Go.ChangeAt Go.RowKit
theorem own:ownKnob Try.prog.godebug=none:=by kernel_rfl
theorem laidOut:laidOutB Try.prog=true:=by kernel_rfl
theorem in_i64 {n:Int} (h:(Lit.int .i64 n).wf=true):InI n:=by simpa [InI,Lit.wf,IntKind.min,IntKind.max,IntKind.signed,IntKind.bits] using h
theorem ints_of {H:Type} {enc:TypeId × Value→H} {W:World} {v:Value} {d:DataW H} {p:List MemPlace} (hv:∃a len cap,v=.slice a len cap) (h:DataW.Trod enc Try.prog W 0 (fun _=>true) true 22 v d p) :
  ∃zs:List Int,DRel (fun b=>W.heap[b]?) (Ints zs) v∧∀x,x∈zs→InI x:=by
 obtain ⟨fuel,h⟩:=h
 obtain ⟨a0,l0,c0,rfl⟩:=hv
 rcases open_ints Try.underlying22 Try.underlying3 (by kernel_rfl) h with ⟨h1,-⟩ | ⟨a,len,cap,zs,h1,h2,h3,h4,h5,h6,h7,h8⟩
 ·simp [Value.cells] at h1
  obtain ⟨rfl,rfl,rfl⟩:=h1
  exact ⟨[],.slnil 1,fun x hx=>by simp at hx⟩
 ·simp [Value.cells] at h1
  obtain ⟨rfl,rfl,rfl⟩:=h1
  simp only [if_true] at h5
  have hlen:((zs.take l0).map I).length=l0:=by simp; omega
  refine ⟨zs.take l0,?_,fun x hx=>in_i64 (h8 x (List.mem_of_mem_take hx))⟩
  have hd:=DRel.sl (M:=fun b=>W.heap[b]?) 1 ((zs.take l0).map I) a c0 (fun i _=>.int .i64 (zs.getD i 0)) (by rw [hlen]; exact h3) (fun x hx=>by
   obtain ⟨n,-,rfl⟩:=List.mem_map.1 hx
   exact ⟨rfl,fun d hd=>by simp only [DV.cells,List.mem_singleton] at hd; subst hd; rfl⟩) (fun i j hi hj=>by
   have hj0:j=0:=by omega
   subst hj0
   rw [hlen] at hi
   have:=h7 i (by omega)
   rw [Nat.mul_one,Nat.add_zero]
   exact this) (fun i x j d hx hd=>by
   have hi:i<l0:=by
    have:=(List.getElem?_eq_some_iff.1 hx).1
    rw [hlen] at this; exact this
   rw [List.getElem?_map,List.getElem?_take_of_lt hi,List.getElem?_eq_getElem (by omega)] at hx
   simp only [Option.map_some,Option.some.injEq] at hx
   subst hx
   match j,hd with
   | 0,hd =>
    simp only [DV.cells,List.getElem?_cons_zero,Option.some.injEq] at hd
    subst hd
    have e:zs.getD i 0=zs[i]'(by omega):=by simp [List.getD,List.getElem?_eq_getElem (show i<zs.length by omega)]
    rw [e]
    exact .int .i64 _
   | j+1,hd=>simp [DV.cells] at hd)
  rw [hlen] at hd
  exact hd
set_option maxRecDepth 100000 in
theorem outcomes_lifted (os:Os) (started:os.Started) (H:Type) (enc:TypeId × Value→H) :
  ReturnsInHanded {} Try.checked os 6 .any (Rows.safeOutcomesSpec.pre6 enc Try.prog Try.f6 Rows.safeOutcomesRow.domain false) (Rows.safeOutcomesSpec.post enc Try.prog Try.f6 false true false false):=by
 refine returnsInHanded_of_change (C:=Try.checked) own started (by kernel_rfl) Try.func6
  (ChangeSpec.witness6 (enc:=enc) (C:=Try.checked) false ⟨#[],#[.slice none 0 0,.int .i64 0,.int .i64 0,.int .i64 0],[]⟩ 8 (by kernel_rfl) (by kernel_rfl) (by kernel_rfl) (by kernel_rfl)) ?_
 intro W base args ds gs before hval0 hW hcnd _
 have hval:∀(j:Nat) t v,Try.f6.params[j]?=some t→args[j]?=some v→Value.okWide Try.prog W .any base t v:=hval0
 have hW':=hW
 obtain ⟨p,q,hA0,hV,rfl,hfz,hnd⟩:=hW
 have hA:DataW.TrodAll enc Try.prog W 0 (fun _=>true) true Try.f6.params.toList args.toList ds p:=hA0
 rw [Try.params6] at hA hval
 obtain ⟨v0,v1,v2,v3,d0,d1,d2,d3,p0,p1,p2,p3,rfl,rfl,rfl,h0,h1,h2,h3⟩:=trodAll_four hA
 obtain ⟨rfl,rfl⟩:=trodVars_none hV
 have hs0:=okWide_slice Try.underlying22 (hval 0 22 v0 rfl rfl)
 obtain ⟨zs,hz,hzi⟩:=ints_of hs0 h0
 obtain ⟨a,rfl,rfl,rfl,wa⟩:=open_int Try.underlying3 (hval 1 3 v1 rfl rfl) h1
 obtain ⟨b,rfl,rfl,rfl,wb⟩:=open_int Try.underlying3 (hval 2 3 v2 rfl rfl) h2
 obtain ⟨n,rfl,rfl,rfl,wn⟩:=open_int Try.underlying3 (hval 3 3 v3 rfl rfl) h3
 clear hA0 hval0
 simp only [List.append_nil] at hW'
 have hlt:∀x,x∈p0→x.block<W.heap.size:=fun x hx=>hW'.lt x hx
 have hrel:DRels (fun b=>W.heap[b]?) [Ints zs,I a,I b,I n] [v0,.int .i64 a,.int .i64 b,.int .i64 n]:=by
  refine ⟨rfl,fun j d v hd hv=>?_⟩
  match j,hd,hv with
  | 0,hd,hv=>simp at hd hv; subst hd; subst hv; exact hz
  | 1,hd,hv=>simp at hd hv; subst hd; subst hv; exact .int _ _
  | 2,hd,hv=>simp at hd hv; subst hd; subst hv; exact .int _ _
  | 3,hd,hv=>simp at hd hv; subst hd; subst hv; exact .int _ _
  | j+4,hd,hv=>simp at hd
 have hcall:=(outcomes_spec zs hzi a b n (in_i64 wa) (in_i64 wb) (in_i64 wn)).2 W (fun b=>W.heap[b]?) _ (fun _ _ h=>h) (fun _ _ h=>by cases h) hrel
 refine Calls.mono hcall fun e W' ⟨v,M',he,hb,hle,hin,hsame,hres⟩=>?_
 subst he
 have hvt:v=.bool true:=by
  have hres:DRel M' (B true) v:=hres
  cases hres with | bool=>rfl
 subst hvt
 exact ⟨_,rfl,[d0,_,_,_],[],p0,[],p0,[],hW',trodAll_mk1 (shut_bool Try.underlying4 _),(by
   have h4:=trodAll_mk4 (Below.trod laidOut (by kernel_rfl) (by decide +kernel) h0 hb hlt) (shut_int Try.underlying3 wa) (shut_int Try.underlying3 wb) (shut_int Try.underlying3 wn)
   simp only [List.append_nil] at h4
   exact h4),rfl,hb.frame _,fun h=>by cases h⟩
theorem outcomes_proved:Rows.SafeOutcomesSaid :=
 OpenClaim.holds_of_wide 6 Try.f6 rfl rfl rfl rfl rfl rfl rfl ⟨rfl,rfl,rfl,rfl,rfl⟩ rfl rfl rfl rfl rfl (by kernel_rfl) Try.func6 (by kernel_rfl)
  (of_decide_eq_true (by kernel_rfl)) (by unfold Func.isWrapper; first | (rw [if_pos (by decide +kernel)]; kernel_rfl) | (rw [if_neg (by decide +kernel)]; exact ⟨rfl,rfl⟩))
  (fun os started H enc _=>outcomes_lifted os started H enc)
end Go.Proofs.Ytfcfbfkjdenpdaa
