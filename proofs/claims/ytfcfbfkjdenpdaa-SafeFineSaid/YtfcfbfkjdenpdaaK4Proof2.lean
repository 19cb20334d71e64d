/- SafeFine: for every input the law returns true. -/
import Derived.Test.YtfcfbfkjdenpdaaK4Q19
import Derived.Test.YtfcfbfkjdenpdaaRows
import Derived.WalkKit
import Derived.ProofKit
import Derived.OpenShut
import Derived.JoinedCond
import Derived.Carry
import Derived.ChangeSlices
set_option linter.unusedVariables false
set_option linter.unusedSimpArgs false
set_option linter.unusedSectionVars false
namespace Go.Proofs.Ytfcfbfkjdenpdaa
open Go.TM Go.ChangeShapes Go.WideShapes Go.ChangeAt Go.RowKit
theorem own:ownKnob Try.prog.godebug=none:=by kernel_rfl
theorem laidOut:laidOutB Try.prog=true:=by kernel_rfl
theorem in_i64 {n:Int} (h:(Lit.int .i64 n).wf=true):InI n:=by simpa [InI,Lit.wf,IntKind.min,IntKind.max,IntKind.signed,IntKind.bits] using h
theorem ints_of {H:Type} {enc:TypeId × Value→H} {W:World} {v:Value} {d:DataW H} {p:List MemPlace} (hv:∃a len cap,v=.slice a len cap) (h:DataW.Trod enc Try.prog W 0 (fun _=>true) true 22 v d p) :
  ∃zs:List Int,DRel (fun b=>W.heap[b]?) (Ints zs) v∧∀x,x∈zs→InI x:=by
 obtain ⟨fuel,h⟩:=h
 obtain ⟨a0,l0,c0,rfl⟩:=hv
 rcases open_ints Try.underlying22 Try.underlying3 (by kernel_rfl) h with ⟨h1,-⟩ | ⟨a,len,cap,zs,h1,h2,h3,h4,h5,h6,h7,h8⟩
 ·simp [Value.cells] at h1
  obtain ⟨rfl,rfl,rfl⟩:=h1
  exact ⟨[],.slnil 1,fun x hx=>by simp at hx⟩
 ·simp [Value.cells] at h1
  obtain ⟨rfl,rfl,rfl⟩:=h1
  simp only [if_true] at h5
  have hlen:((zs.take l0).map I).length=l0:=by simp; omega
  refine ⟨zs.take l0,?_,fun x hx=>in_i64 (h8 x (List.mem_of_mem_take hx))⟩
  have hd:=DRel.sl (M:=fun b=>W.heap[b]?) 1 ((zs.take l0).map I) a c0 (fun i _=>.int .i64 (zs.getD i 0)) (by rw [hlen]; exact h3) (fun x hx=>by
   obtain ⟨n,-,rfl⟩:=List.mem_map.1 hx
   exact ⟨rfl,fun d hd=>by simp only [DV.cells,List.mem_singleton] at hd; subst hd; rfl⟩) (fun i j hi hj=>by
   have hj0:j=0:=by omega
   subst hj0
   rw [hlen] at hi
   have:=h7 i (by omega)
   rw [Nat.mul_one,Nat.add_zero]
   exact this) (fun i x j d hx hd=>by
   have hi:i<l0:=by
    have:=(List.getElem?_eq_some_iff.1 hx).1
    rw [hlen] at this; exact this
   rw [List.getElem?_map,List.getElem?_take_of_lt hi,List.getElem?_eq_getElem (by omega)] at hx
   simp only [Option.map_some,Option.some.injEq] at hx
   subst hx
   match j,hd with
   | 0,hd =>
    simp only [DV.cells,List.getElem?_cons_zero,Option.some.injEq] at hd
    subst hd
    have e:zs.getD i 0=zs[i]'(by omega):=by simp [List.getD,List.getElem?_eq_getElem (show i<zs.length by omega)]
    rw [e]
    exact .int .i64 _
   | j+1,hd=>simp [DV.cells] at hd)
  rw [hlen] at hd
  exact hd
set_option maxRecDepth 100000 in
theorem fine_lifted (os:Os) (started:os.Started) (H:Type) (enc:TypeId × Value→H) :
  ReturnsInHanded {} Try.checked os 7 .any (Rows.safeFineSpec.pre6 enc Try.prog Try.f7 Rows.safeFineRow.domain false) (Rows.safeFineSpec.post enc Try.prog Try.f7 false true false false):=by
 refine returnsInHanded_of_change (C:=Try.checked) own started (by kernel_rfl) Try.func7
  (ChangeSpec.witness6 (enc:=enc) (C:=Try.checked) false ⟨#[],#[.slice none 0 0],[]⟩ 8 (by kernel_rfl) (by kernel_rfl) (by kernel_rfl) (by kernel_rfl)) ?_
 intro W base args ds gs before hval0 hW hcnd _
 have hval:∀(j:Nat) t v,Try.f7.params[j]?=some t→args[j]?=some v→Value.okWide Try.prog W .any base t v:=hval0
 have hW':=hW
 obtain ⟨p,q,hA0,hV,rfl,hfz,hnd⟩:=hW
 have hA:DataW.TrodAll enc Try.prog W 0 (fun _=>true) true Try.f7.params.toList args.toList ds p:=hA0
 rw [Try.params7] at hA hval
 obtain ⟨v0,d0,rfl,rfl,h0⟩:=trodAll_one hA
 obtain ⟨rfl,rfl⟩:=trodVars_none hV
 have hs0:=okWide_slice Try.underlying22 (hval 0 22 v0 rfl rfl)
 obtain ⟨zs,hz,hzi⟩:=ints_of hs0 h0
 clear hA0 hval0
 simp only [List.append_nil] at hW'
 have hlt:∀x,x∈p→x.block<W.heap.size:=fun x hx=>hW'.lt x hx
 have hrel:DRels (fun b=>W.heap[b]?) [Ints zs] [v0]:=by
  refine ⟨rfl,fun j d v hd hv=>?_⟩
  match j,hd,hv with
  | 0,hd,hv=>simp at hd hv; subst hd; subst hv; exact hz
  | j+1,hd,hv=>simp at hd
 have hcall:=(fine_spec zs hzi).2 W (fun b=>W.heap[b]?) _ (fun _ _ h=>h) (fun _ _ h=>by cases h) hrel
 refine Calls.mono hcall fun e W' ⟨v,M',he,hb,hle,hin,hsame,hres⟩=>?_
 subst he
 have hvt:v=.bool true:=by
  have hres:DRel M' (B true) v:=hres
  cases hres with | bool=>rfl
 subst hvt
 exact ⟨_,rfl,[d0],[],p,[],p,[],hW',trodAll_mk1 (shut_bool Try.underlying4 _),trodAll_mk1 (Below.trod laidOut (by kernel_rfl) (by decide +kernel) h0 hb hlt),rfl,hb.frame _,fun h=>by cases h⟩
theorem fine_proved:Rows.SafeFineSaid :=
 OpenClaim.holds_of_wide 7 Try.f7 rfl rfl rfl rfl rfl rfl rfl ⟨rfl,rfl,rfl,rfl,rfl⟩ rfl rfl rfl rfl rfl (by kernel_rfl) Try.func7 (by kernel_rfl)
  (of_decide_eq_true (by kernel_rfl)) (by unfold Func.isWrapper; first | (rw [if_pos (by decide +kernel)]; kernel_rfl) | (rw [if_neg (by decide +kernel)]; exact ⟨rfl,rfl⟩))
  (fun os started H enc _=>fine_lifted os started H enc)
end Go.Proofs.Ytfcfbfkjdenpdaa
