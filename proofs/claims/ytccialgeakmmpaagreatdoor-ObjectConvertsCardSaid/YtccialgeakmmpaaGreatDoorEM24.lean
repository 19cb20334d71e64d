import Derived.Test.YtccialgeakmmpaaGreatDoorEM23
import Derived.Test.YtccialgeakmmpaaGreatDoorEM19
import Derived.Test.YtccialgeakmmpaaGreatDoorCards
import Derived.Test.YtccialgeakmmpaaGreatDoorTie
import Derived.WalkKit
import Derived.ProofKit
import Derived.OpenShut
import Derived.JoinedCond
import Derived.Carry
import Derived.ChangeSlices
import Derived.Deep.DeepHandedRow
import Derived.Lib.LaidTab
set_option linter.unusedVariables false
set_option linter.unusedSimpArgs false
set_option linter.unusedSectionVars false
namespace Go.Proofs.YtccialgeakmmpaaGreatDoor
open Go.TM
variable [KObj]
set_option maxRecDepth 100000
def polR (t:Nat):Bool:=!(Nat.beq t 28)
theorem catO_spec:CSpec Tryz.prog 6 [] 0 [] 2 [.agg [.dv (.sl 7 (itemsD (I 2) (I 20))),.own 1 0 0 [],.dv tabsD,.dv taxesD]] [(1,.tree 0 0 (.osl 9 rulesL))] :=
 xfun_spec tab_ok mixed names_ok (pol:=polR) (f:=1000) (by kernel_rfl)
set_option maxHeartbeats 4000000 in
theorem bindO_spec (b w n k:Int):CSpec Tryz.prog 5 [.agg [.dv (.sl 7 (itemsD (I b) (I w))),.own 0 0 0 [],.dv tabsD,.dv taxesD],.dv (I n),.dv (I k)] 1 [(0,.tree 0 0 (.osl 9 rulesL))] 3 [.agg [.dv (.sl 7 (itemsD (I (around n 3)) (I (1+around k 40)))),.own 0 0 0 [],.dv tabsD,.dv taxesD]] [(0,.tree 0 0 (.osl 9 rulesL))]:=by
 refine cspec_of tab_ok mixed (calls_snd _) (range_snd _) Tryz.func5 rfl rfl (by kernel_rfl) ?_
 refine .inr ⟨itemsD (I b) (I w),ELes.refl _,Nat.le_of_ble_eq_true rfl,Nat.le_of_ble_eq_true rfl,.inl ⟨_,fun _=>(around_spec n 3 (by omega) (by omega)).ok,?_⟩⟩
 refine ⟨fun _=>⟨by decide,by show (4:Int)<5; decide⟩,[I (around n 3)],⟨rf,tv⟩,_,rfl,?_⟩
 refine .inl ⟨_,fun _=>(around_spec k 40 (by omega) (by omega)).ok,?_⟩
 have hk:=around_bd k 40 (by omega)
 refine ⟨fun _=>⟨by omega,by omega⟩,fun _=>⟨by decide,by show (4:Int)<5; decide⟩,[I (1+around k 40)],⟨rf,tv⟩,_,rfl,?_⟩
 exact ⟨_,_,⟨rfl,rfl⟩,by kernel_rfl,⟨⟨rf,rfl,rf,rf,tv⟩,tv⟩,⟨rfl,rfl⟩,tv⟩
theorem pspec_weak {P:Program} {f:Nat} {args args' rs:List DV} (h:PSpec P f args rs) (hl:DLes args' args):PSpec P f args' rs:=⟨h.1,fun w M vs hin hgl hr=>h.2 w M vs hin hgl (hl.rels hr)⟩
theorem ivl_le (k:IntKind) (a:Int):(DV.ivl k a a).Le (.int k a):=fun M v h=>by
 cases h with
 | ivl _ _ _ n h1 h2 =>
  have:n=a:=by omega
  subst this
  exact .int _ _
def i64x:DV:=.ivl .i64 9223372036854775807 9223372036854775807
def ErrS (its:List Item) (m L:OM) (b2 w2:Int) (cs:List Int):Prop:=∃e:Int,e ≠ 0 ∧
 CSpec Tryz.prog 9 [.ptr 0 0,ofD (catD (I b2) (I w2)),.dv (Ints cs)] 2 (stK its m) 13 [.dv .nilp,.dv (I e)] (stK its m) ∧
 CSpec Tryz.prog 10 [.ptr 0 0,ofD (catD (I b2) (I w2)),.dv (Ints cs)] 2 (rfK its L 0) 8 [.dv .nilp,.dv (I e)] (rfK its L 0)
def OkC (its:List Item) (m L:OM) (b2:Int) (w w2:Nat) (cs:List Int):Prop :=
 CSpec Tryz.prog 9 [.ptr 0 0,ofD (catD (I b2) (I w2)),.dv (Ints cs)] 2 (stK its m) 13 [.ptr 5 0,.dv (I 0)] (stK its m++[(5,.cells (agC (itemsL b2 w2) 4)),(4,.tree 0 0 (.omap pairK ((cvL w w2 L L.length).map eEnt)))]) ∧
 CSpec Tryz.prog 10 [.ptr 0 0,ofD (catD (I b2) (I w2)),.dv (Ints cs)] 2 (rfK its L 0) 8 [.ptr 3 0,.dv (I 0)] (rfK its L 0++[(3,.cells (agC (itemsL b2 w2) 4)),(4,.tree 0 0 (.osl 6 ((cvL w w2 L L.length).map eRo)))])
theorem conv_cases (m L:OM) (b0 b2:Int) (w w2:Nat) (hg:Goes (itemsL b0 w) m L) (hit:IsT (itemsL b0 w) m) (hw0:1≤w∧w≤40) (hb:0≤b2∧b2≤2) (hw:1≤w2∧w2≤40) (l:List Int) (nn:Nat) (hnn:nn=5 ∨ nn=6) :
  ErrS (itemsL b0 w) m L b2 w2 (cpL l nn) ∨ OkC (itemsL b0 w) m L b2 w w2 (cpL l nn):=by
 have hlen:=cpL_len l nn
 have hL:L=[] ↔ m=[]:=by
  have:=hg.same.len
  constructor
  ·rintro rfl; exact List.length_eq_zero_iff.1 (by simpa using this.symm)
  ·rintro rfl; exact List.length_eq_zero_iff.1 (by simpa using this)
 have hokL:=hg.okL
 have hitL:IsT (itemsL b0 w) L:=fun k x hx=>hit k x ((hg.same.get k).trans hx)
 rcases hnn with rfl | rfl
 ·obtain ⟨c,hc⟩:∃c,(cpL l 5)[4]?=some c:=⟨_,List.getElem?_eq_getElem (by omega)⟩
  by_cases h4:m=[] ∨ c=4
  ·right
   have h5:m ≠ []→(cpL l 5)[4]?=some 4:=fun hne=>by
    rcases h4 with h4 | h4
    ·exact absurd h4 hne
    ·rw [hc,h4]
   have h1:=conv_ok m b0 b2 w w2 hg.fit.nd hg.len.1 hg.fit.ok hit hw0 hb hw (cpL l 5) hlen h5
   rw [cv_eq hg.same] at h1
   exact ⟨h1,rconv_ok L b0 b2 w w2 hg.len.2 hg.same.ndL hokL hitL hw0 hb hw (cpL l 5) hlen (fun h=>h5 (fun e=>h (hL.2 e)))⟩
  ·left
   have hne:m ≠ []:=fun e=>h4 (.inl e)
   have hc4:c ≠ 4:=fun e=>h4 (.inr e)
   refine ⟨cvE c,by unfold cvE; split <;> decide,conv_no m b0 b2 w w2 hg.fit.nd hg.len.1 hg.fit.ok hit hb hw (cpL l 5) hlen hne c hc hc4,rconv_no L b0 b2 w w2 hg.len.2 hg.same.ndL hitL hb hw (cpL l 5) hlen (fun e=>hne (hL.1 e)) c hc hc4⟩
 ·left
  exact ⟨1,by decide,conv_len _ m rfl hb (by omega) _ (by omega),rconv_len _ L rfl hb (by omega) _ (by omega)⟩
set_option maxHeartbeats 8000000 in
theorem converts_a (bind wear:Int) (l to:List Int) (other:Int) (hbi:InI bind) (hmax:bind ≠ 9223372036854775807):PSpec Tryz.prog 3 [I bind,I wear,Ints l,Ints to,I other] [B true]:=by
 refine pspec_of tab_ok mixed (calls_snd _) (range_snd _) Tryz.func3 rfl (by kernel_rfl) rfl ?_
 obtain ⟨b,w0,hb0,hb1,hw0,hw1,hfi⟩:=filled_spec bind wear l
 obtain ⟨w,rfl⟩:=Int.eq_ofNat_of_zero_le (show 0≤w0 by omega)
 have hty:TyOk (itemsL b w):=itemsL_ok ⟨by omega,hw1⟩
 have hg:=fill_goes hty l (opsL l).length
 have hit:=fill_isT hty l (opsL l).length
 generalize fillM (itemsL b w) l (opsL l).length=m at hfi hg hit
 generalize fillL (itemsL b w) l (opsL l).length=L at hfi hg
 have hnum:=numS hg.fit.ok hg.ko (by show 5≤1000; omega)
 have hag:=agree_spec (itemsL b w) m L hg.same hg.len.1 hnum
 refine .inr ⟨[],[.dv (I bind),.dv (I wear),.dv (Ints l)],[],6,_,_,hfi,by kernel_rfl,by kernel_rfl,⟨rf,rf,rf,tv⟩,tv,?_⟩
 refine ⟨fun h=>(by cases h),fun _=>?_⟩
 have h9:=around_bd other 9 (by omega)
 have h11:=around_bd other 11 (by omega)
 have hb2:=around_bd (bind+1) 3 (by omega)
 have hw2:=around_bd other 40 (by omega)
 obtain ⟨w2,hw2e⟩:=Int.eq_ofNat_of_zero_le (show 0≤1+around other 40 by omega)
 obtain ⟨nn,hnn,h5⟩:∃nn:Nat,(nn=5 ∨ nn=6)∧5+(around other 11).tdiv 10=(nn:Int):=by
  rw [Int.tdiv_eq_ediv_of_nonneg h11.1]
  by_cases h10:around other 11=10
  ·exact ⟨6,.inr rfl,by rw [h10]; rfl⟩
  ·exact ⟨5,.inl rfl,by omega⟩
 have hq10:(around other 11).tdiv 10=(nn:Int) - 5:=by omega
 by_cases h8:around other 9=8
 ·refine .inr ⟨[],[],[],2,_,_,catO_spec,by kernel_rfl,by kernel_rfl,tv,tv,?_⟩
  refine ⟨fun _=>⟨by have:=hbi.1; omega,by have:=hbi.2; omega⟩,?_⟩
  refine .inr ⟨[7],[.agg [.dv (.sl 7 (itemsD (I 2) (I 20))),.own 0 0 0 [],.dv tabsD,.dv taxesD],.dv (I (bind+1)),.dv (I other)],[(0,.tree 0 0 (.osl 9 rulesL))],3,_,_,bindO_spec 2 20 (bind+1) other,by kernel_rfl,by kernel_rfl,⟨⟨rf,rfl,rf,rf,tv⟩,rf,rf,tv⟩,⟨⟨rfl,rfl⟩,tv⟩,?_⟩
  rw [hw2e]
  generalize around (bind+1) 3=b2 at hb2
  refine .inl ⟨_,fun _=>(around_spec other 9 (by omega) (by omega)).ok,?_⟩
  refine ⟨fun _=>?_,fun h=>absurd h8 (by simpa using h)⟩
  refine .inl ⟨[zruleD],rfl,⟨rf,rf,rf,rf,rf,rf,rf,rf,rf,tv⟩,(fun x hx=>by rcases List.mem_singleton.1 hx with rfl; rfl),?_⟩
  refine .inr ⟨[zruleD],ELes.refl _,Nat.le_of_ble_eq_true rfl,Nat.le_of_ble_eq_true rfl,?_⟩
  refine .inl ⟨_,fun _=>(around_spec other 11 (by omega) (by omega)).ok,?_⟩
  refine ⟨fun _=>(by decide),fun _=>⟨by rw [hq10]; omega,by rw [hq10]; omega⟩,fun _=>⟨by rw [hq10]; omega,by rw [hq10]; omega⟩,?_⟩
  refine .inl ⟨_,fun _=>⟨[I nn,Ints to],⟨le_int h5,rf,tv⟩,cps_spec to nn (by omega)⟩,?_⟩
  have hs:=conv_bad (itemsL b w) m (b:=b2) (w:=w2) (by omega) (by omega) (cpL to nn)
  have hr:=rconv_bad (itemsL b w) L (b:=b2) (w:=w2) (by omega) (by omega) (cpL to nn)
  refine .inr ⟨[3,2],[.ptr 0 0,ofD (cat6D (I b2) (I w2)),.dv (Ints (cpL to nn))],stK (itemsL b w) m,13,_,_,hs,by kernel_rfl,by kernel_rfl,⟨rfl,⟨rf,DV.Le.of_eq rfl,rf,rf,tv⟩,rf,tv⟩,⟨⟨rf,rf,rf,rf,rfl,tv⟩,⟨rfl,rfl⟩,tv⟩,?_⟩
  refine .inr ⟨[4,5],[.ptr 0 0,ofD (cat6D (I b2) (I w2)),.dv (Ints (cpL to nn))],rfK (itemsL b w) L 0,8,_,_,hr,by kernel_rfl,by kernel_rfl,⟨rfl,⟨rf,DV.Le.of_eq rfl,rf,rf,tv⟩,rf,tv⟩,⟨⟨rf,rf,rf,rf,rfl,tv⟩,⟨rfl,rfl⟩,tv⟩,?_⟩
  repeat first | refine ⟨id,?_⟩ | refine ⟨fun _ h=>bw_f h,?_⟩ | refine ⟨fun _ h=>bw_t h,?_⟩ | refine ⟨fun h=>⟨h,fun h2=>bw_and h h2⟩,?_⟩ | refine ⟨fun h=>⟨h,fun h2=>bw_andf h h2⟩,?_⟩
  refine Or.inr ⟨[3,2,4,5],[.ptr 0 0,.ptr 2 0],agK (itemsL b w) m L,0,_,_,hag,by kernel_rfl,by kernel_rfl,⟨rfl,rfl,tv⟩,⟨⟨rf,rf,rf,rf,rfl,tv⟩,⟨rfl,rfl⟩,⟨rf,rf,rf,rf,rfl,tv⟩,⟨rfl,rfl⟩,tv⟩,rfl,?_⟩
  repeat first | refine ⟨id,?_⟩ | refine ⟨fun _=>rfl,?_⟩ | refine ⟨fun _ h=>bw_f h,?_⟩
  refine ⟨fun h=>(by cases h),fun _=>?_⟩
  refine ⟨id,id,.inl ⟨[B true],(fun h=>by cases h),?_⟩⟩
  repeat first | refine ⟨id,?_⟩ | refine ⟨fun _ h=>bw_f h,?_⟩ | refine ⟨fun _ h=>bw_t h,?_⟩ | refine ⟨fun h=>⟨h,fun h2=>bw_and h h2⟩,?_⟩ | refine ⟨fun h=>⟨h,fun h2=>bw_andf h h2⟩,?_⟩
  refine .inl ⟨_,fun _=>lives_spec.ok,?_⟩
  exact ⟨fun _ h=>bw_t h,DV.Le.of_eq rfl,tv⟩
 ·refine .inl ⟨_,fun _=>cat_spec.ok,?_⟩
  refine ⟨fun _=>⟨by have:=hbi.1; omega,by have:=hbi.2; omega⟩,?_⟩
  refine .inl ⟨_,fun _=>(binding_spec 2 20 (bind+1) other).ok,?_⟩
  rw [hw2e]
  generalize around (bind+1) 3=b2 at hb2
  refine .inl ⟨_,fun _=>(around_spec other 9 (by omega) (by omega)).ok,?_⟩
  refine ⟨fun h=>absurd (by simpa using h) h8,fun _=>?_⟩
  refine .inl ⟨_,fun _=>(around_spec other 11 (by omega) (by omega)).ok,?_⟩
  refine ⟨fun _=>(by decide),fun _=>⟨by rw [hq10]; omega,by rw [hq10]; omega⟩,fun _=>⟨by rw [hq10]; omega,by rw [hq10]; omega⟩,?_⟩
  refine .inl ⟨_,fun _=>⟨[I nn,Ints to],⟨le_int h5,rf,tv⟩,cps_spec to nn (by omega)⟩,?_⟩
  rcases conv_cases m L b b2 w w2 hg hit (by omega) (by omega) (by omega) to nn hnn with ⟨e,he,hs,hr⟩ | ⟨hs,hr⟩
  ·refine .inr ⟨[3,2],[.ptr 0 0,ofD (catD (I b2) (I w2)),.dv (Ints (cpL to nn))],stK (itemsL b w) m,13,_,_,hs,by kernel_rfl,by kernel_rfl,⟨rfl,⟨rf,rf,rf,rf,tv⟩,rf,tv⟩,⟨⟨rf,rf,rf,rf,rfl,tv⟩,⟨rfl,rfl⟩,tv⟩,?_⟩
   refine .inr ⟨[4,5],[.ptr 0 0,ofD (catD (I b2) (I w2)),.dv (Ints (cpL to nn))],rfK (itemsL b w) L 0,8,_,_,hr,by kernel_rfl,by kernel_rfl,⟨rfl,⟨rf,rf,rf,rf,tv⟩,rf,tv⟩,⟨⟨rf,rf,rf,rf,rfl,tv⟩,⟨rfl,rfl⟩,tv⟩,?_⟩
   repeat first | refine ⟨id,?_⟩ | refine ⟨fun _ h=>bw_f h,?_⟩ | refine ⟨fun _ h=>bw_t h,?_⟩ | refine ⟨fun h=>⟨h,fun h2=>bw_and h h2⟩,?_⟩ | refine ⟨fun h=>⟨h,fun h2=>bw_andf h h2⟩,?_⟩
   have hge:bw (bif e != e then true else !(true == (e != 0))) false=true:=by
    have:(e == 0)=false:=by simpa using he
    simp [bw,bne,this]
   refine Or.inr ⟨[3,2,4,5],[.ptr 0 0,.ptr 2 0],agK (itemsL b w) m L,0,_,_,hag,by kernel_rfl,by kernel_rfl,⟨rfl,rfl,tv⟩,⟨⟨rf,rf,rf,rf,rfl,tv⟩,⟨rfl,rfl⟩,⟨rf,rf,rf,rf,rfl,tv⟩,⟨rfl,rfl⟩,tv⟩,hge,?_⟩
   repeat first | refine ⟨id,?_⟩ | refine ⟨fun _=>rfl,?_⟩ | refine ⟨fun _ h=>bw_f h,?_⟩
   refine ⟨fun h=>?_,fun _=>?_⟩
   ·exfalso
    have h':(bif bif e != e then true else !(true == (e != 0)) then true else !true)=true:=h
    have:(e == 0)=false:=by simpa using he
    simp [bne,this] at h'
   refine ⟨id,id,.inl ⟨[B true],(fun h=>by cases h),?_⟩⟩
   repeat first | refine ⟨id,?_⟩ | refine ⟨fun _ h=>bw_f h,?_⟩ | refine ⟨fun _ h=>bw_t h,?_⟩ | refine ⟨fun h=>⟨h,fun h2=>bw_and h h2⟩,?_⟩ | refine ⟨fun h=>⟨h,fun h2=>bw_andf h h2⟩,?_⟩
   refine .inl ⟨_,fun _=>lives_spec.ok,?_⟩
   exact ⟨fun _ h=>bw_t h,DV.Le.of_eq rfl,tv⟩
  ·refine .inr ⟨[3,2],[.ptr 0 0,ofD (catD (I b2) (I w2)),.dv (Ints (cpL to nn))],stK (itemsL b w) m,13,_,_,hs,by kernel_rfl,by kernel_rfl,⟨rfl,⟨rf,rf,rf,rf,tv⟩,rf,tv⟩,⟨⟨rf,rf,rf,rf,rfl,tv⟩,⟨rfl,rfl⟩,tv⟩,?_⟩
   refine .inr ⟨[4,5],[.ptr 0 0,ofD (catD (I b2) (I w2)),.dv (Ints (cpL to nn))],rfK (itemsL b w) L 0,8,_,_,hr,by kernel_rfl,by kernel_rfl,⟨rfl,⟨rf,rf,rf,rf,tv⟩,rf,tv⟩,⟨⟨rf,rf,rf,rf,rfl,tv⟩,⟨rfl,rfl⟩,tv⟩,?_⟩
   repeat first | refine ⟨id,?_⟩ | refine ⟨fun _ h=>bw_f h,?_⟩ | refine ⟨fun _ h=>bw_t h,?_⟩ | refine ⟨fun h=>⟨h,fun h2=>bw_and h h2⟩,?_⟩ | refine ⟨fun h=>⟨h,fun h2=>bw_andf h h2⟩,?_⟩
   refine Or.inr ⟨[3,2,4,5],[.ptr 0 0,.ptr 2 0],agK (itemsL b w) m L,0,_,_,hag,by kernel_rfl,by kernel_rfl,⟨rfl,rfl,tv⟩,⟨⟨rf,rf,rf,rf,rfl,tv⟩,⟨rfl,rfl⟩,⟨rf,rf,rf,rf,rfl,tv⟩,⟨rfl,rfl⟩,tv⟩,rfl,?_⟩
   repeat first | refine ⟨id,?_⟩ | refine ⟨fun _=>rfl,?_⟩ | refine ⟨fun _ h=>bw_f h,?_⟩
   refine ⟨fun h=>(by cases h),fun _=>?_⟩
   have hag2:=agree_spec (itemsL b2 w2) _ _ (cvL_same (w:=w) (w2:=w2) hg.same) (by unfold cvL; rw [List.length_map,List.take_length]; exact hg.len.2) (cvL_num (b:=0) (its:=[]) hg.same hg.ko hg.fit.ok hit (by omega) (by omega))
   refine ⟨id,id,Or.inr ⟨[10,9,21,22],[.ptr 0 0,.ptr 2 0],agK (itemsL b2 w2) (cvL w w2 L L.length) (cvL w w2 L L.length),0,_,_,hag2,by kernel_rfl,by kernel_rfl,⟨rfl,rfl,tv⟩,⟨⟨rf,rf,rf,rf,rfl,tv⟩,⟨rfl,rfl⟩,⟨rf,rf,rf,rf,rfl,tv⟩,⟨rfl,rfl⟩,tv⟩,rfl,?_⟩⟩
   repeat first | refine ⟨id,?_⟩ | refine ⟨fun _ h=>bw_f h,?_⟩ | refine ⟨fun _ h=>bw_t h,?_⟩ | refine ⟨fun h=>⟨h,fun h2=>bw_and h h2⟩,?_⟩ | refine ⟨fun h=>⟨h,fun h2=>bw_andf h h2⟩,?_⟩
   refine .inl ⟨_,fun _=>lives_spec.ok,?_⟩
   exact ⟨fun _ h=>bw_t h,DV.Le.of_eq rfl,tv⟩
set_option maxHeartbeats 8000000 in
theorem converts_b (bind wear:Int) (l to:List Int) (other:Int) (hbi:InI bind) (hmax:bind=9223372036854775807):PSpec Tryz.prog 3 [i64x,I wear,Ints l,Ints to,I other] [B true]:=by
 subst hmax
 refine pspec_of tab_ok mixed (calls_snd _) (range_snd _) Tryz.func3 rfl (by kernel_rfl) rfl ?_
 obtain ⟨b,w0,hb0,hb1,hw0,hw1,hfi⟩:=filled_spec 9223372036854775807 wear l
 obtain ⟨w,rfl⟩:=Int.eq_ofNat_of_zero_le (show 0≤w0 by omega)
 have hty:TyOk (itemsL b w):=itemsL_ok ⟨by omega,hw1⟩
 have hg:=fill_goes hty l (opsL l).length
 have hit:=fill_isT hty l (opsL l).length
 generalize fillM (itemsL b w) l (opsL l).length=m at hfi hg hit
 generalize fillL (itemsL b w) l (opsL l).length=L at hfi hg
 have hnum:=numS hg.fit.ok hg.ko (by show 5≤1000; omega)
 have hag:=agree_spec (itemsL b w) m L hg.same hg.len.1 hnum
 refine .inr ⟨[],[.dv (I 9223372036854775807),.dv (I wear),.dv (Ints l)],[],6,_,_,hfi,by kernel_rfl,by kernel_rfl,⟨ivl_le _ _,rf,rf,tv⟩,tv,?_⟩
 refine ⟨fun h=>(by cases h),fun _=>?_⟩
 have h9:=around_bd other 9 (by omega)
 have h11:=around_bd other 11 (by omega)
 have hb2:=around_bd (IntKind.i64.wrap (9223372036854775807+1)) 3 (by omega)
 have hw2:=around_bd other 40 (by omega)
 obtain ⟨w2,hw2e⟩:=Int.eq_ofNat_of_zero_le (show 0≤1+around other 40 by omega)
 obtain ⟨nn,hnn,h5⟩:∃nn:Nat,(nn=5 ∨ nn=6)∧5+(around other 11).tdiv 10=(nn:Int):=by
  rw [Int.tdiv_eq_ediv_of_nonneg h11.1]
  by_cases h10:around other 11=10
  ·exact ⟨6,.inr rfl,by rw [h10]; rfl⟩
  ·exact ⟨5,.inl rfl,by omega⟩
 have hq10:(around other 11).tdiv 10=(nn:Int) - 5:=by omega
 by_cases h8:around other 9=8
 ·refine .inr ⟨[],[],[],2,_,_,catO_spec,by kernel_rfl,by kernel_rfl,tv,tv,?_⟩
  refine .inr ⟨[7],[.agg [.dv (.sl 7 (itemsD (I 2) (I 20))),.own 0 0 0 [],.dv tabsD,.dv taxesD],.dv (I (IntKind.i64.wrap (9223372036854775807+1))),.dv (I other)],[(0,.tree 0 0 (.osl 9 rulesL))],3,_,_,bindO_spec 2 20 (IntKind.i64.wrap (9223372036854775807+1)) other,by kernel_rfl,by kernel_rfl,⟨⟨rf,rfl,rf,rf,tv⟩,rf,rf,tv⟩,⟨⟨rfl,rfl⟩,tv⟩,?_⟩
  rw [hw2e]
  generalize around (IntKind.i64.wrap (9223372036854775807+1)) 3=b2 at hb2
  refine .inl ⟨_,fun _=>(around_spec other 9 (by omega) (by omega)).ok,?_⟩
  refine ⟨fun _=>?_,fun h=>absurd h8 (by simpa using h)⟩
  refine .inl ⟨[zruleD],rfl,⟨rf,rf,rf,rf,rf,rf,rf,rf,rf,tv⟩,(fun x hx=>by rcases List.mem_singleton.1 hx with rfl; rfl),?_⟩
  refine .inr ⟨[zruleD],ELes.refl _,Nat.le_of_ble_eq_true rfl,Nat.le_of_ble_eq_true rfl,?_⟩
  refine .inl ⟨_,fun _=>(around_spec other 11 (by omega) (by omega)).ok,?_⟩
  refine ⟨fun _=>(by decide),fun _=>⟨by rw [hq10]; omega,by rw [hq10]; omega⟩,fun _=>⟨by rw [hq10]; omega,by rw [hq10]; omega⟩,?_⟩
  refine .inl ⟨_,fun _=>⟨[I nn,Ints to],⟨le_int h5,rf,tv⟩,cps_spec to nn (by omega)⟩,?_⟩
  have hs:=conv_bad (itemsL b w) m (b:=b2) (w:=w2) (by omega) (by omega) (cpL to nn)
  have hr:=rconv_bad (itemsL b w) L (b:=b2) (w:=w2) (by omega) (by omega) (cpL to nn)
  refine .inr ⟨[3,2],[.ptr 0 0,ofD (cat6D (I b2) (I w2)),.dv (Ints (cpL to nn))],stK (itemsL b w) m,13,_,_,hs,by kernel_rfl,by kernel_rfl,⟨rfl,⟨rf,DV.Le.of_eq rfl,rf,rf,tv⟩,rf,tv⟩,⟨⟨rf,rf,rf,rf,rfl,tv⟩,⟨rfl,rfl⟩,tv⟩,?_⟩
  refine .inr ⟨[4,5],[.ptr 0 0,ofD (cat6D (I b2) (I w2)),.dv (Ints (cpL to nn))],rfK (itemsL b w) L 0,8,_,_,hr,by kernel_rfl,by kernel_rfl,⟨rfl,⟨rf,DV.Le.of_eq rfl,rf,rf,tv⟩,rf,tv⟩,⟨⟨rf,rf,rf,rf,rfl,tv⟩,⟨rfl,rfl⟩,tv⟩,?_⟩
  repeat first | refine ⟨id,?_⟩ | refine ⟨fun _ h=>bw_f h,?_⟩ | refine ⟨fun _ h=>bw_t h,?_⟩ | refine ⟨fun h=>⟨h,fun h2=>bw_and h h2⟩,?_⟩ | refine ⟨fun h=>⟨h,fun h2=>bw_andf h h2⟩,?_⟩
  refine Or.inr ⟨[3,2,4,5],[.ptr 0 0,.ptr 2 0],agK (itemsL b w) m L,0,_,_,hag,by kernel_rfl,by kernel_rfl,⟨rfl,rfl,tv⟩,⟨⟨rf,rf,rf,rf,rfl,tv⟩,⟨rfl,rfl⟩,⟨rf,rf,rf,rf,rfl,tv⟩,⟨rfl,rfl⟩,tv⟩,rfl,?_⟩
  repeat first | refine ⟨id,?_⟩ | refine ⟨fun _=>rfl,?_⟩ | refine ⟨fun _ h=>bw_f h,?_⟩
  refine ⟨fun h=>(by cases h),fun _=>?_⟩
  refine ⟨id,id,.inl ⟨[B true],(fun h=>by cases h),?_⟩⟩
  repeat first | refine ⟨id,?_⟩ | refine ⟨fun _ h=>bw_f h,?_⟩ | refine ⟨fun _ h=>bw_t h,?_⟩ | refine ⟨fun h=>⟨h,fun h2=>bw_and h h2⟩,?_⟩ | refine ⟨fun h=>⟨h,fun h2=>bw_andf h h2⟩,?_⟩
  refine .inl ⟨_,fun _=>lives_spec.ok,?_⟩
  exact ⟨fun _ h=>bw_t h,DV.Le.of_eq rfl,tv⟩
 ·refine .inl ⟨_,fun _=>cat_spec.ok,?_⟩
  refine .inl ⟨_,fun _=>(binding_spec 2 20 (IntKind.i64.wrap (9223372036854775807+1)) other).ok,?_⟩
  rw [hw2e]
  generalize around (IntKind.i64.wrap (9223372036854775807+1)) 3=b2 at hb2
  refine .inl ⟨_,fun _=>(around_spec other 9 (by omega) (by omega)).ok,?_⟩
  refine ⟨fun h=>absurd (by simpa using h) h8,fun _=>?_⟩
  refine .inl ⟨_,fun _=>(around_spec other 11 (by omega) (by omega)).ok,?_⟩
  refine ⟨fun _=>(by decide),fun _=>⟨by rw [hq10]; omega,by rw [hq10]; omega⟩,fun _=>⟨by rw [hq10]; omega,by rw [hq10]; omega⟩,?_⟩
  refine .inl ⟨_,fun _=>⟨[I nn,Ints to],⟨le_int h5,rf,tv⟩,cps_spec to nn (by omega)⟩,?_⟩
  rcases conv_cases m L b b2 w w2 hg hit (by omega) (by omega) (by omega) to nn hnn with ⟨e,he,hs,hr⟩ | ⟨hs,hr⟩
  ·refine .inr ⟨[3,2],[.ptr 0 0,ofD (catD (I b2) (I w2)),.dv (Ints (cpL to nn))],stK (itemsL b w) m,13,_,_,hs,by kernel_rfl,by kernel_rfl,⟨rfl,⟨rf,rf,rf,rf,tv⟩,rf,tv⟩,⟨⟨rf,rf,rf,rf,rfl,tv⟩,⟨rfl,rfl⟩,tv⟩,?_⟩
   refine .inr ⟨[4,5],[.ptr 0 0,ofD (catD (I b2) (I w2)),.dv (Ints (cpL to nn))],rfK (itemsL b w) L 0,8,_,_,hr,by kernel_rfl,by kernel_rfl,⟨rfl,⟨rf,rf,rf,rf,tv⟩,rf,tv⟩,⟨⟨rf,rf,rf,rf,rfl,tv⟩,⟨rfl,rfl⟩,tv⟩,?_⟩
   repeat first | refine ⟨id,?_⟩ | refine ⟨fun _ h=>bw_f h,?_⟩ | refine ⟨fun _ h=>bw_t h,?_⟩ | refine ⟨fun h=>⟨h,fun h2=>bw_and h h2⟩,?_⟩ | refine ⟨fun h=>⟨h,fun h2=>bw_andf h h2⟩,?_⟩
   have hge:bw (bif e != e then true else !(true == (e != 0))) false=true:=by
    have:(e == 0)=false:=by simpa using he
    simp [bw,bne,this]
   refine Or.inr ⟨[3,2,4,5],[.ptr 0 0,.ptr 2 0],agK (itemsL b w) m L,0,_,_,hag,by kernel_rfl,by kernel_rfl,⟨rfl,rfl,tv⟩,⟨⟨rf,rf,rf,rf,rfl,tv⟩,⟨rfl,rfl⟩,⟨rf,rf,rf,rf,rfl,tv⟩,⟨rfl,rfl⟩,tv⟩,hge,?_⟩
   repeat first | refine ⟨id,?_⟩ | refine ⟨fun _=>rfl,?_⟩ | refine ⟨fun _ h=>bw_f h,?_⟩
   refine ⟨fun h=>?_,fun _=>?_⟩
   ·exfalso
    have h':(bif bif e != e then true else !(true == (e != 0)) then true else !true)=true:=h
    have:(e == 0)=false:=by simpa using he
    simp [bne,this] at h'
   refine ⟨id,id,.inl ⟨[B true],(fun h=>by cases h),?_⟩⟩
   repeat first | refine ⟨id,?_⟩ | refine ⟨fun _ h=>bw_f h,?_⟩ | refine ⟨fun _ h=>bw_t h,?_⟩ | refine ⟨fun h=>⟨h,fun h2=>bw_and h h2⟩,?_⟩ | refine ⟨fun h=>⟨h,fun h2=>bw_andf h h2⟩,?_⟩
   refine .inl ⟨_,fun _=>lives_spec.ok,?_⟩
   exact ⟨fun _ h=>bw_t h,DV.Le.of_eq rfl,tv⟩
  ·refine .inr ⟨[3,2],[.ptr 0 0,ofD (catD (I b2) (I w2)),.dv (Ints (cpL to nn))],stK (itemsL b w) m,13,_,_,hs,by kernel_rfl,by kernel_rfl,⟨rfl,⟨rf,rf,rf,rf,tv⟩,rf,tv⟩,⟨⟨rf,rf,rf,rf,rfl,tv⟩,⟨rfl,rfl⟩,tv⟩,?_⟩
   refine .inr ⟨[4,5],[.ptr 0 0,ofD (catD (I b2) (I w2)),.dv (Ints (cpL to nn))],rfK (itemsL b w) L 0,8,_,_,hr,by kernel_rfl,by kernel_rfl,⟨rfl,⟨rf,rf,rf,rf,tv⟩,rf,tv⟩,⟨⟨rf,rf,rf,rf,rfl,tv⟩,⟨rfl,rfl⟩,tv⟩,?_⟩
   repeat first | refine ⟨id,?_⟩ | refine ⟨fun _ h=>bw_f h,?_⟩ | refine ⟨fun _ h=>bw_t h,?_⟩ | refine ⟨fun h=>⟨h,fun h2=>bw_and h h2⟩,?_⟩ | refine ⟨fun h=>⟨h,fun h2=>bw_andf h h2⟩,?_⟩
   refine Or.inr ⟨[3,2,4,5],[.ptr 0 0,.ptr 2 0],agK (itemsL b w) m L,0,_,_,hag,by kernel_rfl,by kernel_rfl,⟨rfl,rfl,tv⟩,⟨⟨rf,rf,rf,rf,rfl,tv⟩,⟨rfl,rfl⟩,⟨rf,rf,rf,rf,rfl,tv⟩,⟨rfl,rfl⟩,tv⟩,rfl,?_⟩
   repeat first | refine ⟨id,?_⟩ | refine ⟨fun _=>rfl,?_⟩ | refine ⟨fun _ h=>bw_f h,?_⟩
   refine ⟨fun h=>(by cases h),fun _=>?_⟩
   have hag2:=agree_spec (itemsL b2 w2) _ _ (cvL_same (w:=w) (w2:=w2) hg.same) (by unfold cvL; rw [List.length_map,List.take_length]; exact hg.len.2) (cvL_num (b:=0) (its:=[]) hg.same hg.ko hg.fit.ok hit (by omega) (by omega))
   refine ⟨id,id,Or.inr ⟨[10,9,21,22],[.ptr 0 0,.ptr 2 0],agK (itemsL b2 w2) (cvL w w2 L L.length) (cvL w w2 L L.length),0,_,_,hag2,by kernel_rfl,by kernel_rfl,⟨rfl,rfl,tv⟩,⟨⟨rf,rf,rf,rf,rfl,tv⟩,⟨rfl,rfl⟩,⟨rf,rf,rf,rf,rfl,tv⟩,⟨rfl,rfl⟩,tv⟩,rfl,?_⟩⟩
   repeat first | refine ⟨id,?_⟩ | refine ⟨fun _ h=>bw_f h,?_⟩ | refine ⟨fun _ h=>bw_t h,?_⟩ | refine ⟨fun h=>⟨h,fun h2=>bw_and h h2⟩,?_⟩ | refine ⟨fun h=>⟨h,fun h2=>bw_andf h h2⟩,?_⟩
   refine .inl ⟨_,fun _=>lives_spec.ok,?_⟩
   exact ⟨fun _ h=>bw_t h,DV.Le.of_eq rfl,tv⟩
theorem converts_all (bind wear:Int) (l to:List Int) (other:Int) (hbi:InI bind):PSpec Tryz.prog 3 [I bind,I wear,Ints l,Ints to,I other] [B true]:=by
 by_cases hm:bind=9223372036854775807
 ·exact pspec_weak (converts_b bind wear l to other hbi hm) ⟨by rw [hm]; exact le_ivl (Int.le_refl _) (Int.le_refl _),rf,rf,rf,rf,tv⟩
 ·exact converts_a bind wear l to other hbi hm
end Go.Proofs.YtccialgeakmmpaaGreatDoor
namespace Go.Proofs.YtccialgeakmmpaaGreatDoor
open Go.TM Go.ChangeShapes Go.WideShapes Go.ChangeAt Go.RowKit
theorem own:ownKnob Tryz.prog.godebug=none:=by kernel_rfl
theorem laidOut:laidOutB Tryz.prog=true:=by kernel_rfl
theorem in_i64 {n:Int} (h:(Lit.int .i64 n).wf=true):InI n:=by simpa [InI,Lit.wf,IntKind.min,IntKind.max,IntKind.signed,IntKind.bits] using h
theorem ints_of {H:Type} {enc:TypeId × Value→H} {W:World} {v:Value} {d:DataW H} {p:List MemPlace} (hv:∃a len cap,v=.slice a len cap) (h:DataW.Trod enc Tryz.prog W 0 (fun _=>true) true 22 v d p) :
  ∃zs:List Int,DRel (fun b=>W.heap[b]?) (Ints zs) v∧∀x,x∈zs→InI x:=by
 obtain ⟨fuel,h⟩:=h
 obtain ⟨a0,l0,c0,rfl⟩:=hv
 rcases open_ints Tryz.underlying22 Tryz.underlying3 (by kernel_rfl) h with ⟨h1,-⟩ | ⟨a,len,cap,zs,h1,h2,h3,h4,h5,h6,h7,h8⟩
 ·simp [Value.cells] at h1
  obtain ⟨rfl,rfl,rfl⟩:=h1
  exact ⟨[],.slnil 1,fun x hx=>by simp at hx⟩
 ·simp [Value.cells] at h1
  obtain ⟨rfl,rfl,rfl⟩:=h1
  simp only [if_true] at h5
  have hlen:((zs.take l0).map I).length=l0:=by simp; omega
  refine ⟨zs.take l0,?_,fun x hx=>in_i64 (h8 x (List.mem_of_mem_take hx))⟩
  ·have hd:=DRel.sl (M:=fun b=>W.heap[b]?) 1 ((zs.take l0).map I) a c0 (fun i _=>.int .i64 (zs.getD i 0)) (by rw [hlen]; exact h3) (fun x hx=>by
    obtain ⟨n,-,rfl⟩:=List.mem_map.1 hx
    exact ⟨rfl,fun d hd=>by simp only [DV.cells,List.mem_singleton] at hd; subst hd; rfl⟩) (fun i j hi hj=>by
    have hj0:j=0:=by omega
    subst hj0
    rw [hlen] at hi
    have:=h7 i (by omega)
    rw [Nat.mul_one,Nat.add_zero]
    exact this) (fun i x j d hx hd=>by
    have hi:i<l0:=by
     have:=(List.getElem?_eq_some_iff.1 hx).1
     rw [hlen] at this; exact this
    rw [List.getElem?_map,List.getElem?_take_of_lt hi,List.getElem?_eq_getElem (by omega)] at hx
    simp only [Option.map_some,Option.some.injEq] at hx
    subst hx
    match j,hd with
    | 0,hd =>
     simp only [DV.cells,List.getElem?_cons_zero,Option.some.injEq] at hd
     subst hd
     have e:zs.getD i 0=zs[i]'(by omega):=by simp [List.getD,List.getElem?_eq_getElem (show i<zs.length by omega)]
     rw [e]
     exact .int .i64 _
    | j+1,hd=>simp [DV.cells] at hd)
   rw [hlen] at hd
   exact hd
theorem kinds_of {W:World} (h:laidMetH Tryz.prog [("worldmint/lexer.kinds",Rows.laid_worldmint_lexer_kinds)] W):∃(ty:TypeId) (fr:Nat × Nat),W.heap[2]?=some (.cells kArr ty fr):=by
 have ht:Lib.TabIs Tryz.prog W "worldmint/lexer.kinds" .u8 (kindL.map fun n=>((n:Nat):Int)) :=
  Lib.tabIs_of_head (rest:=[]) (g:=2) (t:=236) (e:=5) (n:=128) (by kernel_rfl) (by kernel_rfl) Tryz.underlying236 Tryz.underlying5 (by kernel_rfl) (by kernel_rfl) h
 have hg:Tryz.prog.globalNamed "worldmint/lexer.kinds"=some 2:=by kernel_rfl
 unfold Lib.TabIs World.var? at ht
 rw [hg] at ht
 simp only [Option.bind_some] at ht
 split at ht
 ·rename_i cs ty fr hh
  injection ht with ht
  refine ⟨ty,fr,?_⟩
  rw [hh,ht]
  simp only [kArr,List.map_map]
  rfl
 ·cases ht
def laidW (w:World):World:={ w with heap:=w.heap.modify 2 fun
  | .cells _ t frozen=>.cells kArr t frozen
  | o=>o }
end Go.Proofs.YtccialgeakmmpaaGreatDoor
