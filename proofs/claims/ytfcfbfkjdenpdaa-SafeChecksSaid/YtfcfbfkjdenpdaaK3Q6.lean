import Derived.Test.YtfcfbfkjdenpdaaK3Q2
import Derived.Test.YtfcfbfkjdenpdaaK3B5
set_option linter.unusedVariables false
set_option linter.unusedSimpArgs false
set_option linter.unusedSectionVars false
namespace Go.Proofs.Ytfcfbfkjdenpdaa
open Go.TM
set_option maxHeartbeats 4000000 in
theorem sameFault_spec (f:Fau) (hw:f.way.length≤1000000):PSpec Try.prog 37 [eFau f,eFau f] [B true]:=by
 refine pspec_of tab_ok mixed (calls_snd _) (range_snd _) Try.func37 rfl (by kernel_rfl) rfl ?_
 have hs:=same_spec f.way f.way (by omega)
 rw [show (f.way == f.way)=true by simp] at hs
 refine .inl ⟨_,fun _=>hs.ok,?_⟩
 repeat first | refine ⟨id,?_⟩ | refine ⟨fun _ h=>bw_f h,?_⟩ | refine ⟨fun _ h=>bw_t h,?_⟩ | refine ⟨fun h=>⟨h,fun h2=>bw_and h h2⟩,?_⟩ | refine ⟨fun h=>⟨h,fun h2=>bw_andf h h2⟩,?_⟩ | refine ⟨fun _=>rfl,?_⟩
 refine ⟨DV.Le.of_eq ?_,tv⟩
 simp
theorem same2_spec (f:Fau) (hw:f.way.length≤1000000):PSpec Try.prog 13 [eFau f,eFau f] [B true]:=by
 refine pspec_of tab_ok mixed (calls_snd _) (range_snd _) Try.func13 rfl (by kernel_rfl) rfl ?_
 exact .inl ⟨_,fun _=>(sameFault_spec f hw).ok,rf,tv⟩
def Pu (ss:List Sta):Prop:=∀x,x∈ss→∀o,o∈x.opts→o.put.length≤1000
theorem pu_spoilt {d:Dea} (h:Pu d.states) (a b n:Int):Pu (spoilt d a b n).states:=by
 unfold spoilt
 split
 ·rename_i s hs
  have hsm:=List.mem_of_getElem? hs
  intro x hx o ho
  rcases List.mem_or_eq_of_mem_set hx with hx | rfl
  ·exact h x hx o ho
  ·have hk:=h s hsm o
   unfold spoilSta at ho
   repeat' split at ho
   all_goals first
    | exact hk ho
    | (dsimp only at ho
       rcases List.mem_append.1 ho with ho | ho
       ·exact hk ho
       ·rcases List.mem_singleton.1 ho with rfl; simp)
 ·exact h
theorem pu_deal (l:List Int):Pu (dealD l).states:=by
 have heq:Eqv (dl0 l).states (dealD l).states:=gvAt_eqv l (dl0 l) _
 intro y hy o ho
 obtain ⟨x,hx,hs⟩:=mem_eqv heq hy
 rw [(strip_fields hs).2.1] at ho
 obtain ⟨i,rfl⟩:=dlStas_mem hx
 obtain ⟨j,rfl⟩:=dlSta_opts ho
 have hp:=dlPart_len l
 have hb:=pick_bd l 0 2 (by omega)
 have:=(dlOpt_ok l (parties:=((dlPart l).length:Int)) (by omega) (dlN l) i j).2.2.1
 omega
theorem pu_loop (l:List Int) (items parties n:Int) (s:OpSt) (hs:∀o,o∈s.out→o.put.length≤1000):∀f:Nat,∀o,o∈(opLoop l items parties n f s).out→o.put.length≤1000
 | 0=>hs
 | f+1=>by
  intro o ho
  rw [opLoop_succ] at ho
  rcases List.mem_append.1 ho with ho | ho
  ·exact pu_loop l items parties n s hs f o ho
  ·rcases List.mem_singleton.1 ho with rfl
   have:=(amts_bd l items ((opLoop l items parties n f s).pos+2)).1
   dsimp only; omega
theorem pu_mkSta (l:List Int) (items parties n:Int) (i:Nat) (pos:Int):∀o,o∈(mkSta l items parties n i pos).1.opts→o.put.length≤1000:=by
 intro o ho
 unfold mkSta at ho
 cases hf:(pick l pos 3 == 0) with
 | true =>
  simp only [hf,cond_true] at ho
  exact pu_loop l items parties n _ (by simp) _ o ho
 | false =>
  simp only [hf,cond_false] at ho
  cases hg:(pick l (opsOf l items parties n false (pos+1)).pos 2 == 0) with
  | true=>simp only [hg,cond_true] at ho; exact pu_loop l items parties n _ (by simp) _ o ho
  | false=>simp only [hg,cond_false] at ho; exact pu_loop l items parties n _ (by simp) _ o ho
theorem pu_mk (l:List Int):Pu (mkDeal l 5).states:=by
 have:∀i,Pu (mkStas l 5 (mkPart l).length (mkN l) 3 i).1:=by
  intro i
  induction i with
  | zero=>intro x hx; simp [mkStas] at hx
  | succ i ih =>
   intro x hx
   simp only [mkStas] at hx
   rcases List.mem_append.1 hx with hx | hx
   ·exact ih x hx
   ·rcases List.mem_singleton.1 hx with rfl
    exact pu_mkSta _ _ _ _ _ _
 exact this _
theorem dealsOf_parts (l:List Int) (a b n:Int):∀d,d∈dealsOf l a b n→Parts d:=by
 intro d hd
 have hz:=dealsOf_sz l a b n d hd
 refine ⟨hz.sm.states,hz.sm.opts,?_,hz.gv⟩
 simp only [dealsOf,List.mem_cons,List.not_mem_nil,or_false] at hd
 rcases hd with rfl | rfl | rfl | rfl
 ·exact pu_deal l
 ·exact pu_spoilt (pu_deal l) _ _ _
 ·exact pu_spoilt (pu_deal l) _ _ _
 ·exact pu_mk l
theorem analyze_way {n:Int} {d:Dea} (hs:Parts d):(analyze n d).way.length≤1000000:=by
 unfold analyze
 cases hm:malf n d with
 | some s=>simp
 | none =>
  simp only
  cases hf:anF n.toNat d with
  | none=>simp
  | some f =>
   unfold anF at hf
   obtain ⟨z,hz,hf⟩:=List.exists_of_findSome?_eq_some hf
   unfold stF at hf
   split at hf
   ·cases hf
   ·obtain ⟨t,-,hf⟩:=List.exists_of_findSome?_eq_some hf
    unfold stepF at hf
    split at hf
    ·injection hf with hf
     rw [←hf]
     have hv:z.2∈(disc d).ways:=(List.of_mem_zip hz).2
     have h1:=(disc_ok d).way z.2 hv
     have h2:=(disc_ok d).le
     have h3:=hs.st
     simp only [List.length_append,List.length_cons,List.length_nil]
     omega
    ·cases hf
end Go.Proofs.Ytfcfbfkjdenpdaa
