import Derived.Test.YtfcfbfkjdenpdaaK4Q12
import Derived.Test.YtfcfbfkjdenpdaaK4Q5
set_option linter.unusedVariables false
set_option linter.unusedSimpArgs false
set_option linter.unusedSectionVars false
namespace Go.Proofs.Ytfcfbfkjdenpdaa
open Go.TM
def jB (d:Dea):Boxes:=[(6,.cells [.ptr 5 0]),(7,.tree 0 0 (eEnd (endsE d))),(8,.cells [.own 7 0 0 []]),(9,.cells [.dv (I 24)]),(10,.cells [.fn 66 [.ptr 6 0]]),(11,.cells [.dv (I 18)]),(12,.cells [.fn 67 [.ptr 8 0]]),(13,.cells [.dv (I 13)]),(14,.cells [.bfn 68 [.ptr 5 0]]),(15,.cells [.dv (I 10)]),(16,.cells [.fn 69 [.ptr 6 0]]),(17,.cells [.dv (B false),.fn 65 [.ptr 10 0,.ptr 9 0,.ptr 6 0],.dv (B false),.fn 65 [.ptr 12 0,.ptr 11 0,.ptr 6 0],.dv (B true),.fn 65 [.ptr 14 0,.ptr 13 0,.ptr 6 0],.dv (B false),.fn 65 [.ptr 16 0,.ptr 15 0,.ptr 6 0],.dv (B true),.bfn 71 [.ptr 5 0]])]
set_option maxRecDepth 100000 in
set_option maxHeartbeats 4000000 in
theorem conds_spec (n:Nat) (d:Dea) (hd:d.states ≠ []) (hs:Small d):CSpec Try.prog 39 [.ptr 5 0] 6 (qK n d (conM n d)) 12 [.sle 17 5] (qK n d (conM n d)++jB d):=by
 refine cspec_of tab_ok mixed (calls_snd _) (range_snd _) Try.func39 rfl rfl (by kernel_rfl) ?_
 refine .inr ⟨[0,1,2,3,4,5],[.ptr 5 0],qK n d (conM n d),1,_,_,sends_spec n d hd hs (conM n d),by kernel_rfl,by kernel_rfl,⟨rfl,tv⟩,⟨⟨rfl,rfl⟩,⟨rfl,rfl⟩,⟨rf,rf,rf,rfl,rfl,rfl,tv⟩,⟨rfl,rfl⟩,⟨rfl,rfl⟩,⟨rfl,rf,rfl,tv⟩,tv⟩,?_⟩
 refine .inr ⟨[0,1,2,3,4,5,6],[.dv (I 24),.fn 66 [.ptr 6 0],.ptr 6 0],qK n d (conM n d)++p0B d,2,_,_,h64_0 n d 24,by kernel_rfl,by kernel_rfl,⟨rf,⟨rfl,rfl,tv⟩,rfl,tv⟩,⟨⟨rfl,rfl⟩,⟨rfl,rfl⟩,⟨rf,rf,rf,rfl,rfl,rfl,tv⟩,⟨rfl,rfl⟩,⟨rfl,rfl⟩,⟨rfl,rf,rfl,tv⟩,⟨rfl,tv⟩,tv⟩,?_⟩
 refine .inr (.inl ⟨rfl,rfl,.inl ⟨rfl,rfl,.inl ⟨rfl,rfl,.inl ⟨rfl,rfl,.inl ⟨rfl,rfl,.inl ⟨rfl,rfl,.inl ⟨rfl,rfl,.inr (.inr (?_))⟩⟩⟩⟩⟩⟩⟩)
 refine .inr ⟨[0,1,2,3,4,5,6,7,8],[.dv (I 18),.fn 67 [.ptr 8 0],.ptr 6 0],qK n d (conM n d)++p1B d,2,_,_,h64_1 n d 18,by kernel_rfl,by kernel_rfl,⟨rf,⟨rfl,rfl,tv⟩,rfl,tv⟩,⟨⟨rfl,rfl⟩,⟨rfl,rfl⟩,⟨rf,rf,rf,rfl,rfl,rfl,tv⟩,⟨rfl,rfl⟩,⟨rfl,rfl⟩,⟨rfl,rf,rfl,tv⟩,⟨rfl,tv⟩,⟨rfl,rfl⟩,⟨rfl,tv⟩,tv⟩,?_⟩
 refine .inr (.inl ⟨rfl,rfl,.inl ⟨rfl,rfl,.inl ⟨rfl,rfl,.inl ⟨rfl,rfl,.inl ⟨rfl,rfl,.inl ⟨rfl,rfl,.inl ⟨rfl,rfl,.inl ⟨rfl,rfl,.inl ⟨rfl,rfl,.inr (.inr (?_))⟩⟩⟩⟩⟩⟩⟩⟩⟩)
 refine .inr ⟨[0,1,2,3,4,5,6],[.dv (I 13),.bfn 68 [.ptr 5 0],.ptr 6 0],qK n d (conM n d)++p2B d,2,_,_,h64_2 n d 13,by kernel_rfl,by kernel_rfl,⟨rf,⟨rfl,rfl,tv⟩,rfl,tv⟩,⟨⟨rfl,rfl⟩,⟨rfl,rfl⟩,⟨rf,rf,rf,rfl,rfl,rfl,tv⟩,⟨rfl,rfl⟩,⟨rfl,rfl⟩,⟨rfl,rf,rfl,tv⟩,⟨rfl,tv⟩,tv⟩,?_⟩
 refine .inr (.inl ⟨rfl,rfl,.inl ⟨rfl,rfl,.inl ⟨rfl,rfl,.inl ⟨rfl,rfl,.inl ⟨rfl,rfl,.inl ⟨rfl,rfl,.inl ⟨rfl,rfl,.inr (.inr (?_))⟩⟩⟩⟩⟩⟩⟩)
 refine .inr ⟨[0,1,2,3,4,5,6],[.dv (I 10),.fn 69 [.ptr 6 0],.ptr 6 0],qK n d (conM n d)++p3B d,2,_,_,h64_3 n d 10,by kernel_rfl,by kernel_rfl,⟨rf,⟨rfl,rfl,tv⟩,rfl,tv⟩,⟨⟨rfl,rfl⟩,⟨rfl,rfl⟩,⟨rf,rf,rf,rfl,rfl,rfl,tv⟩,⟨rfl,rfl⟩,⟨rfl,rfl⟩,⟨rfl,rf,rfl,tv⟩,⟨rfl,tv⟩,tv⟩,?_⟩
 refine .inr (.inl ⟨rfl,rfl,.inl ⟨rfl,rfl,.inl ⟨rfl,rfl,.inl ⟨rfl,rfl,.inl ⟨rfl,rfl,.inl ⟨rfl,rfl,.inl ⟨rfl,rfl,.inr (.inr (?_))⟩⟩⟩⟩⟩⟩⟩)
 refine .inr (.inr ⟨by kernel_rfl,_,_,⟨rfl,rfl⟩,by kernel_rfl,⟨rfl,tv⟩,⟨rfl,rfl⟩,⟨rfl,rfl⟩,⟨rf,rf,rf,rfl,rfl,rfl,tv⟩,⟨rfl,rfl⟩,⟨rfl,rfl⟩,⟨rfl,rf,rfl,tv⟩,?_⟩)
 exact ⟨⟨rfl,tv⟩,⟨rfl,rfl⟩,⟨rfl,tv⟩,⟨rf,tv⟩,⟨⟨rfl,rfl,tv⟩,tv⟩,⟨rf,tv⟩,⟨⟨rfl,rfl,tv⟩,tv⟩,⟨rf,tv⟩,⟨⟨rfl,rfl,tv⟩,tv⟩,⟨rf,tv⟩,⟨⟨rfl,rfl,tv⟩,tv⟩,⟨rf,⟨rfl,rfl,rfl,rfl,tv⟩,rf,⟨rfl,rfl,rfl,rfl,tv⟩,rf,⟨rfl,rfl,rfl,rfl,tv⟩,rf,⟨rfl,rfl,rfl,rfl,tv⟩,rf,⟨rfl,rfl,tv⟩,tv⟩,tv⟩
end Go.Proofs.Ytfcfbfkjdenpdaa
namespace Go.Proofs.Ytfcfbfkjdenpdaa
open Go.TM
def uK (n:Nat) (d:Dea):Boxes:=[(0,.cells (dvs (dcells d))),(1,.cells zF),(6,.tree 0 0 (eFrom (pD d).from_)),(7,.tree 0 0 (eStps (pD d).steps)),(8,.cells (wC d (.own 6 0 0 []) (.own 7 0 0 []) (.own 14 0 0 []))),(14,.tree 0 0 (.osl 1 ((keysF (pD d)).map I))),(15,.tree 0 0 (.omap intK (conM n d))),(16,.cells [.ptr 8 0,.dv (I n),.own 15 0 0 []]),(19,.cells zF),(20,.cells [.ptr 16 0]),(21,.tree 0 0 (eEnd (endsE d))),(22,.cells [.own 21 0 0 []]),(23,.cells [.dv (I 24)]),(24,.cells [.fn 66 [.ptr 20 0]]),(25,.cells [.dv (I 18)]),(26,.cells [.fn 67 [.ptr 22 0]]),(27,.cells [.dv (I 13)]),(28,.cells [.bfn 68 [.ptr 16 0]]),(29,.cells [.dv (I 10)]),(30,.cells [.fn 69 [.ptr 20 0]]),(31,.cells [.dv (B false),.fn 65 [.ptr 24 0,.ptr 23 0,.ptr 20 0],.dv (B false),.fn 65 [.ptr 26 0,.ptr 25 0,.ptr 20 0],.dv (B true),.fn 65 [.ptr 28 0,.ptr 27 0,.ptr 20 0],.dv (B false),.fn 65 [.ptr 30 0,.ptr 29 0,.ptr 20 0],.dv (B true),.bfn 71 [.ptr 16 0]])]
theorem even_key (s:Int) (v:List Int):∀a b:Bool,codeN (if (a && !b)=true then ⟨10,s,-1,v⟩ else ⟨0,s,-1,v⟩)=if (!a || b)=true then none else some ⟨10,s,-1,v⟩:=by
 intro a b
 cases a <;> cases b <;> rfl
set_option maxRecDepth 100000 in
set_option maxHeartbeats 8000000 in
theorem sCheck_spec (n:Int) (d:Dea) (hs:Parts d):PSpec Try.prog 16 [I n,eDea d] [eFau (checkF n d)]:=by
 refine pspec_of tab_ok mixed (calls_snd _) (range_snd _) Try.func16 rfl (by kernel_rfl) rfl ?_
 cases hm:malf n d with
 | some k =>
  have hc:(analyze n d).code=1:=by simp [analyze,hm]
  have hcf:checkF n d=analyze n d:=by rw [checkF,if_neg (by rw [hc]; decide)]
  rw [hcf]
  refine .inl ⟨_,fun _=>(analyse_bad n d hs k hm).ok,?_⟩
  refine ⟨fun _=>?_,(fun h=>?_)⟩
  ·exact ⟨rf,tv⟩
  ·exfalso
   have h:((analyze n d).code != 0)=false:=h
   rw [hc] at h; cases h
 | none =>
 obtain ⟨hn0,hwf⟩:=malf_none hs hm
 obtain ⟨N,rfl⟩:∃N:Nat,n=N:=⟨n.toNat,by omega⟩
 rw [Int.toNat_natCast] at hwf
 have han:=analyse_spec N d hs hm
 have haz:analyze (N:Int) d=match anF N d with
   | some f=>f
   | none=>⟨0,0,0,[]⟩:=by simp only [analyze,hm,Int.toNat_natCast]; cases anF N d <;> rfl
 cases hf:anF N d with
 | some f =>
  rw [hf] at han haz
  have hc:=anF_code hf
  have haz:analyze (N:Int) d=f:=haz
  have hcf:checkF (N:Int) d=f:=by rw [checkF,if_neg (by rw [haz,hc]; decide),haz]
  rw [hcf]
  refine .inr ⟨[],[.dv (I N),.agg (dvs (dcells d))],[],16,_,_,han,rfl,rfl,⟨rf,⟨rf,rf,rf,tv⟩,tv⟩,tv,?_⟩
  refine ⟨fun _=>?_,(fun h=>?_)⟩
  ·exact ⟨rf,tv⟩
  ·exfalso
   have h:(f.code != 0)=false:=h
   rw [hc] at h; cases h
 | none =>
 rw [hf] at han haz
 have haz:analyze (N:Int) d=⟨0,0,0,[]⟩:=haz
 have hcf:checkF (N:Int) d=orZ (chk N d):=by rw [checkF,if_pos (by rw [haz]),Int.toNat_natCast]
 rw [hcf]
 refine .inr ⟨[],[.dv (I N),.agg (dvs (dcells d))],[],16,_,_,han,rfl,rfl,⟨rf,⟨rf,rf,rf,tv⟩,tv⟩,tv,?_⟩
 refine ⟨(fun h=>by cases h),fun _=>?_⟩
 have hb:=disc_ok d
 have hol:=hb.le
 have hsl:=hwf.sl
 have hp4:=hwf.p4
 have hln:=hb.len
 have hn64:=hwf.n64
 have hw':=wok_disc d hwf.ne
 have hkl:(keysF (pD d)).length=(disc d).order.length:=by rw [hw'.keys]
 have hzl:((disc d).order.zip (disc d).ways).length=(disc d).order.length:=by simp [hln]
 refine .inr ⟨[6,7,8,14,15,16],[.ptr 5 0],qK N d (conM N d),12,_,_,conds_spec N d hwf.ne (small_of hs hwf),by kernel_rfl,by kernel_rfl,⟨rfl,tv⟩,⟨⟨rfl,rfl⟩,⟨rfl,rfl⟩,⟨rf,rf,rf,rfl,rfl,rfl,tv⟩,⟨rfl,rfl⟩,⟨rfl,rfl⟩,⟨rfl,rf,rfl,tv⟩,tv⟩,?_⟩
 refine ⟨Nat,fun w=>⟨32,[(3,.ptr 0 0),(4,.ptr 1 0),(5,.ptr 16 0),(7,.ptr 19 0),(24,.sle 31 5),(25,.dv (I 5)),(26,.dv (I w))],uK N d⟩,fun w=>w≤5∧((List.range 5).take w).findSome? (condW N d)=none,fun w=>5 - w,0,(fun _=>by kernel_rfl),?_,⟨by omega,by simp⟩,?_⟩
 ·exact ⟨⟨rfl,rfl,rfl,rfl,rfl,rf,rf,tv⟩,⟨subWs_dvs _ _ _ (dcells d),⟨rf,rf,rf,rf,tv⟩,⟨rfl,rfl⟩,⟨rfl,rfl⟩,⟨rf,rf,rf,rfl,rfl,rfl,tv⟩,⟨rfl,rfl⟩,⟨rfl,rfl⟩,⟨rfl,rf,rfl,tv⟩,⟨rf,rf,rf,rf,tv⟩,⟨rfl,tv⟩,⟨rfl,rfl⟩,⟨rfl,tv⟩,⟨rf,tv⟩,⟨⟨rfl,rfl,tv⟩,tv⟩,⟨rf,tv⟩,⟨⟨rfl,rfl,tv⟩,tv⟩,⟨rf,tv⟩,⟨⟨rfl,rfl,tv⟩,tv⟩,⟨rf,tv⟩,⟨⟨rfl,rfl,tv⟩,tv⟩,⟨rf,⟨rfl,rfl,rfl,rfl,tv⟩,rf,⟨rfl,rfl,rfl,rfl,tv⟩,rf,⟨rfl,rfl,rfl,rfl,tv⟩,rf,⟨rfl,rfl,rfl,rfl,tv⟩,rf,⟨rfl,rfl,tv⟩,tv⟩,tv⟩,by kernel_rfl,by kernel_rfl⟩
 rintro w ⟨hw1,hw2⟩
 refine ⟨fun h=>?_,fun h=>?_⟩
 ·have hw:w<5:=by
   have:(w:Int)<5:=of_decide_eq_true h
   omega
  clear h
  have hrw:(List.range 5)[w]?=some w:=by simp [hw]
  obtain rfl | rfl | rfl | rfl | rfl:w=0 ∨ w=1 ∨ w=2 ∨ w=3 ∨ w=4:=by omega
  ·refine ⟨fun _=>⟨by decide,by decide⟩,?_⟩
   refine ⟨Nat,fun i=>⟨33,[(3,.ptr 0 0),(4,.ptr 1 0),(5,.ptr 16 0),(7,.ptr 19 0),(24,.sle 31 5),(25,.dv (I 5)),(26,.dv (I ((0:Nat):Int))),(9,.ptr 32 0),(36,.own 14 0 0 []),(37,.dv (I (disc d).order.length)),(38,.dv (I i))],uK N d++[(32,Box.cells [AV.dv (B false),AV.fn 65 [AV.ptr 24 0,AV.ptr 23 0,AV.ptr 20 0]])]⟩,fun i=>i≤(disc d).order.length∧(((disc d).order.zip (disc d).ways).take i).findSome? (condZ N d 0)=none,fun i=>(disc d).order.length - i,0,(fun _=>by kernel_rfl),?_,⟨by omega,by simp⟩,?_⟩
   ·exact ⟨⟨rfl,rfl,rfl,rfl,rfl,rf,rf,rfl,rfl,le_int (by simp [hkl]),rf,tv⟩,⟨subWs_dvs _ _ _ (dcells d),⟨rf,rf,rf,rf,tv⟩,⟨rfl,rfl⟩,⟨rfl,rfl⟩,⟨rf,rf,rf,rfl,rfl,rfl,tv⟩,⟨rfl,rfl⟩,⟨rfl,rfl⟩,⟨rfl,rf,rfl,tv⟩,⟨rf,rf,rf,rf,tv⟩,⟨rfl,tv⟩,⟨rfl,rfl⟩,⟨rfl,tv⟩,⟨rf,tv⟩,⟨⟨rfl,rfl,tv⟩,tv⟩,⟨rf,tv⟩,⟨⟨rfl,rfl,tv⟩,tv⟩,⟨rf,tv⟩,⟨⟨rfl,rfl,tv⟩,tv⟩,⟨rf,tv⟩,⟨⟨rfl,rfl,tv⟩,tv⟩,⟨rf,⟨rfl,rfl,rfl,rfl,tv⟩,rf,⟨rfl,rfl,rfl,rfl,tv⟩,rf,⟨rfl,rfl,rfl,rfl,tv⟩,rf,⟨rfl,rfl,rfl,rfl,tv⟩,rf,⟨rfl,rfl,tv⟩,tv⟩,⟨rf,⟨rfl,rfl,rfl,rfl,tv⟩,tv⟩,tv⟩,by kernel_rfl,by kernel_rfl⟩
   rintro i ⟨hi1,hi2⟩
   refine ⟨fun h=>?_,fun h=>?_⟩
   ·have hi:i<(disc d).order.length:=by
     have:(i:Int)<(disc d).order.length:=of_decide_eq_true h
     omega
    clear h
    generalize hs':(disc d).order[i]=s at *
    have hso:(disc d).order[i]?=some s:=by rw [List.getElem?_eq_getElem hi,hs']
    generalize hv':(disc d).ways[i]'(by omega)=v at *
    have hvo:(disc d).ways[i]?=some v:=by rw [List.getElem?_eq_getElem (by omega),hv']
    have hko:(keysF (pD d))[i]?=some s:=by rw [hw'.keys]; exact hso
    have hrg:=hb.rng _ (List.mem_of_getElem? hso)
    have hcl:s.toNat<d.states.length:=by omega
    obtain ⟨x,hx⟩:∃x,d.states[s.toNat]?=some x:=⟨_,List.getElem?_eq_getElem hcl⟩
    have hbt:=hwf.top x (List.mem_of_getElem? hx)
    have hvl:=way_len (wayOf_at d hso hvo)
    have hra:=rect_folM hwf.opt (leads_disc d i _ v hso hvo) (by omega)
    have hcz0:condZ N d 0 (s,v)=codeN (condS N d 0 s v x):=by simp [condZ,hx]
    refine ⟨fun _=>⟨by omega,by simp; omega⟩,I s,fun _=>by simp [hko],?_⟩
    refine ⟨fun _=>?_,(fun h=>by cases h)⟩
    have hcz:condZ N d 0 (s,v)=if aliveB x then none else some ⟨24,s,-1,v⟩:=by
     rw [hcz0,dead_law hbt]
     simp only [condS]
     cases deadB x <;> rfl
    have hsp:=h65_0 N d hs hwf 24 i s v hso hvo x hx (-1) _ rfl
    generalize aliveB x=bb at hsp hcz
    cases bb with
    | true =>
     simp only [if_true] at hcz hsp
     refine .inr ⟨[6,7,8,14,15,16,20,23,24],[.dv (I s),.dv (I (-1)),.ptr 8 0,.ptr 7 0,.ptr 6 0],qK N d (conM N d)++k0B d 24,0,_,_,hsp,by kernel_rfl,by kernel_rfl,⟨rf,rf,rfl,rfl,rfl,tv⟩,⟨⟨rfl,rfl⟩,⟨rfl,rfl⟩,⟨rf,rf,rf,rfl,rfl,rfl,tv⟩,⟨rfl,rfl⟩,⟨rfl,rfl⟩,⟨rfl,rf,rfl,tv⟩,⟨rfl,tv⟩,⟨rf,tv⟩,⟨⟨rfl,rfl,tv⟩,tv⟩,tv⟩,(fun h=>by cases h),fun _=>?_⟩
     exact ⟨fun _=>⟨by omega,by omega⟩,i+1,⟨⟨rfl,rfl,rfl,rfl,rfl,rf,rf,rfl,rfl,rf,le_int (by omega),tv⟩,⟨subWs_dvs _ _ _ (dcells d),⟨rf,rf,rf,rf,tv⟩,⟨rfl,rfl⟩,⟨rfl,rfl⟩,⟨rf,rf,rf,rfl,rfl,rfl,tv⟩,⟨rfl,rfl⟩,⟨rfl,rfl⟩,⟨rfl,rf,rfl,tv⟩,⟨rf,rf,rf,rf,tv⟩,⟨rfl,tv⟩,⟨rfl,rfl⟩,⟨rfl,tv⟩,⟨rf,tv⟩,⟨⟨rfl,rfl,tv⟩,tv⟩,⟨rf,tv⟩,⟨⟨rfl,rfl,tv⟩,tv⟩,⟨rf,tv⟩,⟨⟨rfl,rfl,tv⟩,tv⟩,⟨rf,tv⟩,⟨⟨rfl,rfl,tv⟩,tv⟩,⟨rf,⟨rfl,rfl,rfl,rfl,tv⟩,rf,⟨rfl,rfl,rfl,rfl,tv⟩,rf,⟨rfl,rfl,rfl,rfl,tv⟩,rf,⟨rfl,rfl,rfl,rfl,tv⟩,rf,⟨rfl,rfl,tv⟩,tv⟩,⟨rf,⟨rfl,rfl,rfl,rfl,tv⟩,tv⟩,tv⟩,by kernel_rfl,by kernel_rfl⟩,⟨by omega,findSome_take (zip_at hso hvo) hi2 hcz⟩,by dsimp only; omega⟩
    | false =>
     simp only [Bool.false_eq_true,if_false] at hcz hsp
     refine .inr ⟨[6,7,8,14,15,16,20,23,24],[.dv (I s),.dv (I (-1)),.ptr 8 0,.ptr 7 0,.ptr 6 0],qK N d (conM N d)++k0B d 24,0,_,_,hsp,by kernel_rfl,by kernel_rfl,⟨rf,rf,rfl,rfl,rfl,tv⟩,⟨⟨rfl,rfl⟩,⟨rfl,rfl⟩,⟨rf,rf,rf,rfl,rfl,rfl,tv⟩,⟨rfl,rfl⟩,⟨rfl,rfl⟩,⟨rfl,rf,rfl,tv⟩,⟨rfl,tv⟩,⟨rf,tv⟩,⟨⟨rfl,rfl,tv⟩,tv⟩,tv⟩,fun _=>?_,(fun h=>by cases h)⟩
     have h1:condW N d 0=some ⟨24,s,-1,v⟩:=findSome_at (zip_at hso hvo) hi2 hcz
     have h2:chk N d=some ⟨24,s,-1,v⟩:=findSome_at hrw hw2 h1
     rw [h2]
     exact ⟨rf,tv⟩
   ·have hi:i=(disc d).order.length:=by
     have:¬ (i:Int)<(disc d).order.length:=of_decide_eq_false h
     omega
    clear h
    subst hi
    rw [List.take_of_length_le (by omega)] at hi2
    exact ⟨fun _=>⟨by omega,by omega⟩,1,⟨⟨rfl,rfl,rfl,rfl,rfl,rf,le_int (by omega),tv⟩,⟨subWs_dvs _ _ _ (dcells d),⟨rf,rf,rf,rf,tv⟩,⟨rfl,rfl⟩,⟨rfl,rfl⟩,⟨rf,rf,rf,rfl,rfl,rfl,tv⟩,⟨rfl,rfl⟩,⟨rfl,rfl⟩,⟨rfl,rf,rfl,tv⟩,⟨rf,rf,rf,rf,tv⟩,⟨rfl,tv⟩,⟨rfl,rfl⟩,⟨rfl,tv⟩,⟨rf,tv⟩,⟨⟨rfl,rfl,tv⟩,tv⟩,⟨rf,tv⟩,⟨⟨rfl,rfl,tv⟩,tv⟩,⟨rf,tv⟩,⟨⟨rfl,rfl,tv⟩,tv⟩,⟨rf,tv⟩,⟨⟨rfl,rfl,tv⟩,tv⟩,⟨rf,⟨rfl,rfl,rfl,rfl,tv⟩,rf,⟨rfl,rfl,rfl,rfl,tv⟩,rf,⟨rfl,rfl,rfl,rfl,tv⟩,rf,⟨rfl,rfl,rfl,rfl,tv⟩,rf,⟨rfl,rfl,tv⟩,tv⟩,tv⟩,by kernel_rfl,by kernel_rfl⟩,⟨by omega,findSome_take hrw hw2 hi2⟩,by dsimp only; omega⟩
  ·refine ⟨fun _=>⟨by decide,by decide⟩,?_⟩
   refine ⟨Nat,fun i=>⟨33,[(3,.ptr 0 0),(4,.ptr 1 0),(5,.ptr 16 0),(7,.ptr 19 0),(24,.sle 31 5),(25,.dv (I 5)),(26,.dv (I ((1:Nat):Int))),(9,.ptr 32 0),(36,.own 14 0 0 []),(37,.dv (I (disc d).order.length)),(38,.dv (I i))],uK N d++[(32,Box.cells [AV.dv (B false),AV.fn 65 [AV.ptr 26 0,AV.ptr 25 0,AV.ptr 20 0]])]⟩,fun i=>i≤(disc d).order.length∧(((disc d).order.zip (disc d).ways).take i).findSome? (condZ N d 1)=none,fun i=>(disc d).order.length - i,0,(fun _=>by kernel_rfl),?_,⟨by omega,by simp⟩,?_⟩
   ·exact ⟨⟨rfl,rfl,rfl,rfl,rfl,rf,rf,rfl,rfl,le_int (by simp [hkl]),rf,tv⟩,⟨subWs_dvs _ _ _ (dcells d),⟨rf,rf,rf,rf,tv⟩,⟨rfl,rfl⟩,⟨rfl,rfl⟩,⟨rf,rf,rf,rfl,rfl,rfl,tv⟩,⟨rfl,rfl⟩,⟨rfl,rfl⟩,⟨rfl,rf,rfl,tv⟩,⟨rf,rf,rf,rf,tv⟩,⟨rfl,tv⟩,⟨rfl,rfl⟩,⟨rfl,tv⟩,⟨rf,tv⟩,⟨⟨rfl,rfl,tv⟩,tv⟩,⟨rf,tv⟩,⟨⟨rfl,rfl,tv⟩,tv⟩,⟨rf,tv⟩,⟨⟨rfl,rfl,tv⟩,tv⟩,⟨rf,tv⟩,⟨⟨rfl,rfl,tv⟩,tv⟩,⟨rf,⟨rfl,rfl,rfl,rfl,tv⟩,rf,⟨rfl,rfl,rfl,rfl,tv⟩,rf,⟨rfl,rfl,rfl,rfl,tv⟩,rf,⟨rfl,rfl,rfl,rfl,tv⟩,rf,⟨rfl,rfl,tv⟩,tv⟩,⟨rf,⟨rfl,rfl,rfl,rfl,tv⟩,tv⟩,tv⟩,by kernel_rfl,by kernel_rfl⟩
   rintro i ⟨hi1,hi2⟩
   refine ⟨fun h=>?_,fun h=>?_⟩
   ·have hi:i<(disc d).order.length:=by
     have:(i:Int)<(disc d).order.length:=of_decide_eq_true h
     omega
    clear h
    generalize hs':(disc d).order[i]=s at *
    have hso:(disc d).order[i]?=some s:=by rw [List.getElem?_eq_getElem hi,hs']
    generalize hv':(disc d).ways[i]'(by omega)=v at *
    have hvo:(disc d).ways[i]?=some v:=by rw [List.getElem?_eq_getElem (by omega),hv']
    have hko:(keysF (pD d))[i]?=some s:=by rw [hw'.keys]; exact hso
    have hrg:=hb.rng _ (List.mem_of_getElem? hso)
    have hcl:s.toNat<d.states.length:=by omega
    obtain ⟨x,hx⟩:∃x,d.states[s.toNat]?=some x:=⟨_,List.getElem?_eq_getElem hcl⟩
    have hbt:=hwf.top x (List.mem_of_getElem? hx)
    have hvl:=way_len (wayOf_at d hso hvo)
    have hra:=rect_folM hwf.opt (leads_disc d i _ v hso hvo) (by omega)
    have hcz0:condZ N d 1 (s,v)=codeN (condS N d 1 s v x):=by simp [condZ,hx]
    refine ⟨fun _=>⟨by omega,by simp; omega⟩,I s,fun _=>by simp [hko],?_⟩
    refine ⟨fun _=>?_,(fun h=>by cases h)⟩
    have hcz:condZ N d 1 (s,v)=if decide (s∈endsE d) then none else some ⟨18,s,-1,v⟩:=by
     rw [hcz0,ends_agree d hwf.ne (List.mem_of_getElem? hso)]
     simp only [condS]
     cases endsR d s <;> rfl
    have hsp:=h65_1 N d hs hwf 18 i s v hso hvo x hx (-1) _ rfl
    generalize decide (s∈endsE d)=bb at hsp hcz
    cases bb with
    | true =>
     simp only [if_true] at hcz hsp
     refine .inr ⟨[6,7,8,14,15,16,20,21,22,25,26],[.dv (I s),.dv (I (-1)),.ptr 10 0,.ptr 9 0,.ptr 6 0],qK N d (conM N d)++k1B d 18,0,_,_,hsp,by kernel_rfl,by kernel_rfl,⟨rf,rf,rfl,rfl,rfl,tv⟩,⟨⟨rfl,rfl⟩,⟨rfl,rfl⟩,⟨rf,rf,rf,rfl,rfl,rfl,tv⟩,⟨rfl,rfl⟩,⟨rfl,rfl⟩,⟨rfl,rf,rfl,tv⟩,⟨rfl,tv⟩,⟨rfl,rfl⟩,⟨rfl,tv⟩,⟨rf,tv⟩,⟨⟨rfl,rfl,tv⟩,tv⟩,tv⟩,(fun h=>by cases h),fun _=>?_⟩
     exact ⟨fun _=>⟨by omega,by omega⟩,i+1,⟨⟨rfl,rfl,rfl,rfl,rfl,rf,rf,rfl,rfl,rf,le_int (by omega),tv⟩,⟨subWs_dvs _ _ _ (dcells d),⟨rf,rf,rf,rf,tv⟩,⟨rfl,rfl⟩,⟨rfl,rfl⟩,⟨rf,rf,rf,rfl,rfl,rfl,tv⟩,⟨rfl,rfl⟩,⟨rfl,rfl⟩,⟨rfl,rf,rfl,tv⟩,⟨rf,rf,rf,rf,tv⟩,⟨rfl,tv⟩,⟨rfl,rfl⟩,⟨rfl,tv⟩,⟨rf,tv⟩,⟨⟨rfl,rfl,tv⟩,tv⟩,⟨rf,tv⟩,⟨⟨rfl,rfl,tv⟩,tv⟩,⟨rf,tv⟩,⟨⟨rfl,rfl,tv⟩,tv⟩,⟨rf,tv⟩,⟨⟨rfl,rfl,tv⟩,tv⟩,⟨rf,⟨rfl,rfl,rfl,rfl,tv⟩,rf,⟨rfl,rfl,rfl,rfl,tv⟩,rf,⟨rfl,rfl,rfl,rfl,tv⟩,rf,⟨rfl,rfl,rfl,rfl,tv⟩,rf,⟨rfl,rfl,tv⟩,tv⟩,⟨rf,⟨rfl,rfl,rfl,rfl,tv⟩,tv⟩,tv⟩,by kernel_rfl,by kernel_rfl⟩,⟨by omega,findSome_take (zip_at hso hvo) hi2 hcz⟩,by dsimp only; omega⟩
    | false =>
     simp only [Bool.false_eq_true,if_false] at hcz hsp
     refine .inr ⟨[6,7,8,14,15,16,20,21,22,25,26],[.dv (I s),.dv (I (-1)),.ptr 10 0,.ptr 9 0,.ptr 6 0],qK N d (conM N d)++k1B d 18,0,_,_,hsp,by kernel_rfl,by kernel_rfl,⟨rf,rf,rfl,rfl,rfl,tv⟩,⟨⟨rfl,rfl⟩,⟨rfl,rfl⟩,⟨rf,rf,rf,rfl,rfl,rfl,tv⟩,⟨rfl,rfl⟩,⟨rfl,rfl⟩,⟨rfl,rf,rfl,tv⟩,⟨rfl,tv⟩,⟨rfl,rfl⟩,⟨rfl,tv⟩,⟨rf,tv⟩,⟨⟨rfl,rfl,tv⟩,tv⟩,tv⟩,fun _=>?_,(fun h=>by cases h)⟩
     have h1:condW N d 1=some ⟨18,s,-1,v⟩:=findSome_at (zip_at hso hvo) hi2 hcz
     have h2:chk N d=some ⟨18,s,-1,v⟩:=findSome_at hrw hw2 h1
     rw [h2]
     exact ⟨rf,tv⟩
   ·have hi:i=(disc d).order.length:=by
     have:¬ (i:Int)<(disc d).order.length:=of_decide_eq_false h
     omega
    clear h
    subst hi
    rw [List.take_of_length_le (by omega)] at hi2
    exact ⟨fun _=>⟨by omega,by omega⟩,2,⟨⟨rfl,rfl,rfl,rfl,rfl,rf,le_int (by omega),tv⟩,⟨subWs_dvs _ _ _ (dcells d),⟨rf,rf,rf,rf,tv⟩,⟨rfl,rfl⟩,⟨rfl,rfl⟩,⟨rf,rf,rf,rfl,rfl,rfl,tv⟩,⟨rfl,rfl⟩,⟨rfl,rfl⟩,⟨rfl,rf,rfl,tv⟩,⟨rf,rf,rf,rf,tv⟩,⟨rfl,tv⟩,⟨rfl,rfl⟩,⟨rfl,tv⟩,⟨rf,tv⟩,⟨⟨rfl,rfl,tv⟩,tv⟩,⟨rf,tv⟩,⟨⟨rfl,rfl,tv⟩,tv⟩,⟨rf,tv⟩,⟨⟨rfl,rfl,tv⟩,tv⟩,⟨rf,tv⟩,⟨⟨rfl,rfl,tv⟩,tv⟩,⟨rf,⟨rfl,rfl,rfl,rfl,tv⟩,rf,⟨rfl,rfl,rfl,rfl,tv⟩,rf,⟨rfl,rfl,rfl,rfl,tv⟩,rf,⟨rfl,rfl,rfl,rfl,tv⟩,rf,⟨rfl,rfl,tv⟩,tv⟩,tv⟩,by kernel_rfl,by kernel_rfl⟩,⟨by omega,findSome_take hrw hw2 hi2⟩,by dsimp only; omega⟩
  ·refine ⟨fun _=>⟨by decide,by decide⟩,?_⟩
   refine ⟨Nat,fun i=>⟨33,[(3,.ptr 0 0),(4,.ptr 1 0),(5,.ptr 16 0),(7,.ptr 19 0),(24,.sle 31 5),(25,.dv (I 5)),(26,.dv (I ((2:Nat):Int))),(9,.ptr 32 0),(36,.own 14 0 0 []),(37,.dv (I (disc d).order.length)),(38,.dv (I i))],uK N d++[(32,Box.cells [AV.dv (B true),AV.fn 65 [AV.ptr 28 0,AV.ptr 27 0,AV.ptr 20 0]])]⟩,fun i=>i≤(disc d).order.length∧(((disc d).order.zip (disc d).ways).take i).findSome? (condZ N d 2)=none,fun i=>(disc d).order.length - i,0,(fun _=>by kernel_rfl),?_,⟨by omega,by simp⟩,?_⟩
   ·exact ⟨⟨rfl,rfl,rfl,rfl,rfl,rf,rf,rfl,rfl,le_int (by simp [hkl]),rf,tv⟩,⟨subWs_dvs _ _ _ (dcells d),⟨rf,rf,rf,rf,tv⟩,⟨rfl,rfl⟩,⟨rfl,rfl⟩,⟨rf,rf,rf,rfl,rfl,rfl,tv⟩,⟨rfl,rfl⟩,⟨rfl,rfl⟩,⟨rfl,rf,rfl,tv⟩,⟨rf,rf,rf,rf,tv⟩,⟨rfl,tv⟩,⟨rfl,rfl⟩,⟨rfl,tv⟩,⟨rf,tv⟩,⟨⟨rfl,rfl,tv⟩,tv⟩,⟨rf,tv⟩,⟨⟨rfl,rfl,tv⟩,tv⟩,⟨rf,tv⟩,⟨⟨rfl,rfl,tv⟩,tv⟩,⟨rf,tv⟩,⟨⟨rfl,rfl,tv⟩,tv⟩,⟨rf,⟨rfl,rfl,rfl,rfl,tv⟩,rf,⟨rfl,rfl,rfl,rfl,tv⟩,rf,⟨rfl,rfl,rfl,rfl,tv⟩,rf,⟨rfl,rfl,rfl,rfl,tv⟩,rf,⟨rfl,rfl,tv⟩,tv⟩,⟨rf,⟨rfl,rfl,rfl,rfl,tv⟩,tv⟩,tv⟩,by kernel_rfl,by kernel_rfl⟩
   rintro i ⟨hi1,hi2⟩
   refine ⟨fun h=>?_,fun h=>?_⟩
   ·have hi:i<(disc d).order.length:=by
     have:(i:Int)<(disc d).order.length:=of_decide_eq_true h
     omega
    clear h
    generalize hs':(disc d).order[i]=s at *
    have hso:(disc d).order[i]?=some s:=by rw [List.getElem?_eq_getElem hi,hs']
    generalize hv':(disc d).ways[i]'(by omega)=v at *
    have hvo:(disc d).ways[i]?=some v:=by rw [List.getElem?_eq_getElem (by omega),hv']
    have hko:(keysF (pD d))[i]?=some s:=by rw [hw'.keys]; exact hso
    have hrg:=hb.rng _ (List.mem_of_getElem? hso)
    have hcl:s.toNat<d.states.length:=by omega
    obtain ⟨x,hx⟩:∃x,d.states[s.toNat]?=some x:=⟨_,List.getElem?_eq_getElem hcl⟩
    have hbt:=hwf.top x (List.mem_of_getElem? hx)
    have hvl:=way_len (wayOf_at d hso hvo)
    have hra:=rect_folM hwf.opt (leads_disc d i _ v hso hvo) (by omega)
    have hcz0:condZ N d 2 (s,v)=codeN (condS N d 2 s v x):=by simp [condZ,hx]
    refine ⟨fun _=>⟨by omega,by simp; omega⟩,I s,fun _=>by simp [hko],?_⟩
    refine ⟨(fun h=>by cases h),fun _=>?_⟩
    have hcz:condZ N d 2 (s,v)=(List.range d.parties.length).findSome? (stopF x (folM N d v) s v):=by
     rw [hcz0,stuck_law N d s v x hra.len]
    refine ⟨Nat,fun p=>⟨33,[(3,.ptr 0 0),(4,.ptr 1 0),(5,.ptr 16 0),(7,.ptr 19 0),(24,.sle 31 5),(25,.dv (I 5)),(26,.dv (I ((2:Nat):Int))),(9,.ptr 32 0),(36,.own 14 0 0 []),(37,.dv (I (disc d).order.length)),(38,.dv (I i)),(11,.dv (I s)),(54,.dv (I d.parties.length)),(55,.dv (I p))],uK N d++[(32,Box.cells [AV.dv (B true),AV.fn 65 [AV.ptr 28 0,AV.ptr 27 0,AV.ptr 20 0]])]⟩,fun p=>p≤d.parties.length∧((List.range d.parties.length).take p).findSome? (stopF x (folM N d v) s v)=none,fun p=>d.parties.length - p,0,(fun _=>by kernel_rfl),?_,⟨by omega,by simp⟩,?_⟩
    ·exact ⟨⟨rfl,rfl,rfl,rfl,rfl,rf,rf,rfl,rfl,rf,rf,rf,le_int (by simp),rf,tv⟩,⟨subWs_dvs _ _ _ (dcells d),⟨rf,rf,rf,rf,tv⟩,⟨rfl,rfl⟩,⟨rfl,rfl⟩,⟨rf,rf,rf,rfl,rfl,rfl,tv⟩,⟨rfl,rfl⟩,⟨rfl,rfl⟩,⟨rfl,rf,rfl,tv⟩,⟨rf,rf,rf,rf,tv⟩,⟨rfl,tv⟩,⟨rfl,rfl⟩,⟨rfl,tv⟩,⟨rf,tv⟩,⟨⟨rfl,rfl,tv⟩,tv⟩,⟨rf,tv⟩,⟨⟨rfl,rfl,tv⟩,tv⟩,⟨rf,tv⟩,⟨⟨rfl,rfl,tv⟩,tv⟩,⟨rf,tv⟩,⟨⟨rfl,rfl,tv⟩,tv⟩,⟨rf,⟨rfl,rfl,rfl,rfl,tv⟩,rf,⟨rfl,rfl,rfl,rfl,tv⟩,rf,⟨rfl,rfl,rfl,rfl,tv⟩,rf,⟨rfl,rfl,rfl,rfl,tv⟩,rf,⟨rfl,rfl,tv⟩,tv⟩,⟨rf,⟨rfl,rfl,rfl,rfl,tv⟩,tv⟩,tv⟩,by kernel_rfl,by kernel_rfl⟩
    rintro p ⟨hp1,hp2⟩
    refine ⟨fun h=>?_,fun h=>?_⟩
    ·have hp:p<d.parties.length:=by
      have:(p:Int)<d.parties.length:=of_decide_eq_true h
      omega
     clear h
     have hrp:(List.range d.parties.length)[p]?=some p:=by simp [hp]
     obtain ⟨r,hr⟩:∃r,(folM N d v)[p]?=some r:=⟨_,List.getElem?_eq_getElem (by rw [hra.len]; exact hp)⟩
     have hrl:=hra.row r (List.mem_of_getElem? hr)
     have hsp:=h65_2 N d hs hwf 13 i s v hso hvo x hx p r hr (by omega) _ rfl
     have hpf:stopF x (folM N d v) s v p=if freeB x r p then none else some ⟨13,s,p,v⟩:=by
      rw [free_law hbt hr]
      unfold stopF
      cases stopB x (folM N d v) p <;> rfl
     generalize freeB x r p=bb at hsp hpf
     cases bb with
     | true =>
      simp only [if_true] at hpf hsp
      refine .inr ⟨[6,7,8,14,15,16,20,27,28],[.dv (I s),.dv (I p),.ptr 8 0,.ptr 7 0,.ptr 6 0],qK N d (conM N d)++k2B d 13,0,_,_,hsp,by kernel_rfl,by kernel_rfl,⟨rf,rf,rfl,rfl,rfl,tv⟩,⟨⟨rfl,rfl⟩,⟨rfl,rfl⟩,⟨rf,rf,rf,rfl,rfl,rfl,tv⟩,⟨rfl,rfl⟩,⟨rfl,rfl⟩,⟨rfl,rf,rfl,tv⟩,⟨rfl,tv⟩,⟨rf,tv⟩,⟨⟨rfl,rfl,tv⟩,tv⟩,tv⟩,(fun h=>by cases h),fun _=>?_⟩
      exact ⟨fun _=>⟨by omega,by omega⟩,p+1,⟨⟨rfl,rfl,rfl,rfl,rfl,rf,rf,rfl,rfl,rf,rf,rf,rf,le_int (by omega),tv⟩,⟨subWs_dvs _ _ _ (dcells d),⟨rf,rf,rf,rf,tv⟩,⟨rfl,rfl⟩,⟨rfl,rfl⟩,⟨rf,rf,rf,rfl,rfl,rfl,tv⟩,⟨rfl,rfl⟩,⟨rfl,rfl⟩,⟨rfl,rf,rfl,tv⟩,⟨rf,rf,rf,rf,tv⟩,⟨rfl,tv⟩,⟨rfl,rfl⟩,⟨rfl,tv⟩,⟨rf,tv⟩,⟨⟨rfl,rfl,tv⟩,tv⟩,⟨rf,tv⟩,⟨⟨rfl,rfl,tv⟩,tv⟩,⟨rf,tv⟩,⟨⟨rfl,rfl,tv⟩,tv⟩,⟨rf,tv⟩,⟨⟨rfl,rfl,tv⟩,tv⟩,⟨rf,⟨rfl,rfl,rfl,rfl,tv⟩,rf,⟨rfl,rfl,rfl,rfl,tv⟩,rf,⟨rfl,rfl,rfl,rfl,tv⟩,rf,⟨rfl,rfl,rfl,rfl,tv⟩,rf,⟨rfl,rfl,tv⟩,tv⟩,⟨rf,⟨rfl,rfl,rfl,rfl,tv⟩,tv⟩,tv⟩,by kernel_rfl,by kernel_rfl⟩,⟨by omega,findSome_take hrp hp2 hpf⟩,by dsimp only; omega⟩
     | false =>
      simp only [Bool.false_eq_true,if_false] at hpf hsp
      rw [findSome_at hrp hp2 hpf] at hcz
      refine .inr ⟨[6,7,8,14,15,16,20,27,28],[.dv (I s),.dv (I p),.ptr 8 0,.ptr 7 0,.ptr 6 0],qK N d (conM N d)++k2B d 13,0,_,_,hsp,by kernel_rfl,by kernel_rfl,⟨rf,rf,rfl,rfl,rfl,tv⟩,⟨⟨rfl,rfl⟩,⟨rfl,rfl⟩,⟨rf,rf,rf,rfl,rfl,rfl,tv⟩,⟨rfl,rfl⟩,⟨rfl,rfl⟩,⟨rfl,rf,rfl,tv⟩,⟨rfl,tv⟩,⟨rf,tv⟩,⟨⟨rfl,rfl,tv⟩,tv⟩,tv⟩,fun _=>?_,(fun h=>by cases h)⟩
      have h1:condW N d 2=some ⟨13,s,p,v⟩:=findSome_at (zip_at hso hvo) hi2 hcz
      have h2:chk N d=some ⟨13,s,p,v⟩:=findSome_at hrw hw2 h1
      rw [h2]
      exact ⟨rf,tv⟩
    ·have hp:p=d.parties.length:=by
      have:¬ (p:Int)<d.parties.length:=of_decide_eq_false h
      omega
     clear h
     subst hp
     rw [List.take_of_length_le (by simp)] at hp2
     rw [hp2] at hcz
     exact ⟨fun _=>⟨by omega,by omega⟩,i+1,⟨⟨rfl,rfl,rfl,rfl,rfl,rf,rf,rfl,rfl,rf,le_int (by omega),tv⟩,⟨subWs_dvs _ _ _ (dcells d),⟨rf,rf,rf,rf,tv⟩,⟨rfl,rfl⟩,⟨rfl,rfl⟩,⟨rf,rf,rf,rfl,rfl,rfl,tv⟩,⟨rfl,rfl⟩,⟨rfl,rfl⟩,⟨rfl,rf,rfl,tv⟩,⟨rf,rf,rf,rf,tv⟩,⟨rfl,tv⟩,⟨rfl,rfl⟩,⟨rfl,tv⟩,⟨rf,tv⟩,⟨⟨rfl,rfl,tv⟩,tv⟩,⟨rf,tv⟩,⟨⟨rfl,rfl,tv⟩,tv⟩,⟨rf,tv⟩,⟨⟨rfl,rfl,tv⟩,tv⟩,⟨rf,tv⟩,⟨⟨rfl,rfl,tv⟩,tv⟩,⟨rf,⟨rfl,rfl,rfl,rfl,tv⟩,rf,⟨rfl,rfl,rfl,rfl,tv⟩,rf,⟨rfl,rfl,rfl,rfl,tv⟩,rf,⟨rfl,rfl,rfl,rfl,tv⟩,rf,⟨rfl,rfl,tv⟩,tv⟩,⟨rf,⟨rfl,rfl,rfl,rfl,tv⟩,tv⟩,tv⟩,by kernel_rfl,by kernel_rfl⟩,⟨by omega,findSome_take (zip_at hso hvo) hi2 hcz⟩,by dsimp only; omega⟩
   ·have hi:i=(disc d).order.length:=by
     have:¬ (i:Int)<(disc d).order.length:=of_decide_eq_false h
     omega
    clear h
    subst hi
    rw [List.take_of_length_le (by omega)] at hi2
    exact ⟨fun _=>⟨by omega,by omega⟩,3,⟨⟨rfl,rfl,rfl,rfl,rfl,rf,le_int (by omega),tv⟩,⟨subWs_dvs _ _ _ (dcells d),⟨rf,rf,rf,rf,tv⟩,⟨rfl,rfl⟩,⟨rfl,rfl⟩,⟨rf,rf,rf,rfl,rfl,rfl,tv⟩,⟨rfl,rfl⟩,⟨rfl,rfl⟩,⟨rfl,rf,rfl,tv⟩,⟨rf,rf,rf,rf,tv⟩,⟨rfl,tv⟩,⟨rfl,rfl⟩,⟨rfl,tv⟩,⟨rf,tv⟩,⟨⟨rfl,rfl,tv⟩,tv⟩,⟨rf,tv⟩,⟨⟨rfl,rfl,tv⟩,tv⟩,⟨rf,tv⟩,⟨⟨rfl,rfl,tv⟩,tv⟩,⟨rf,tv⟩,⟨⟨rfl,rfl,tv⟩,tv⟩,⟨rf,⟨rfl,rfl,rfl,rfl,tv⟩,rf,⟨rfl,rfl,rfl,rfl,tv⟩,rf,⟨rfl,rfl,rfl,rfl,tv⟩,rf,⟨rfl,rfl,rfl,rfl,tv⟩,rf,⟨rfl,rfl,tv⟩,tv⟩,tv⟩,by kernel_rfl,by kernel_rfl⟩,⟨by omega,findSome_take hrw hw2 hi2⟩,by dsimp only; omega⟩
  ·refine ⟨fun _=>⟨by decide,by decide⟩,?_⟩
   refine ⟨Nat,fun i=>⟨33,[(3,.ptr 0 0),(4,.ptr 1 0),(5,.ptr 16 0),(7,.ptr 19 0),(24,.sle 31 5),(25,.dv (I 5)),(26,.dv (I ((3:Nat):Int))),(9,.ptr 32 0),(36,.own 14 0 0 []),(37,.dv (I (disc d).order.length)),(38,.dv (I i))],uK N d++[(32,Box.cells [AV.dv (B false),AV.fn 65 [AV.ptr 30 0,AV.ptr 29 0,AV.ptr 20 0]])]⟩,fun i=>i≤(disc d).order.length∧(((disc d).order.zip (disc d).ways).take i).findSome? (condZ N d 3)=none,fun i=>(disc d).order.length - i,0,(fun _=>by kernel_rfl),?_,⟨by omega,by simp⟩,?_⟩
   ·exact ⟨⟨rfl,rfl,rfl,rfl,rfl,rf,rf,rfl,rfl,le_int (by simp [hkl]),rf,tv⟩,⟨subWs_dvs _ _ _ (dcells d),⟨rf,rf,rf,rf,tv⟩,⟨rfl,rfl⟩,⟨rfl,rfl⟩,⟨rf,rf,rf,rfl,rfl,rfl,tv⟩,⟨rfl,rfl⟩,⟨rfl,rfl⟩,⟨rfl,rf,rfl,tv⟩,⟨rf,rf,rf,rf,tv⟩,⟨rfl,tv⟩,⟨rfl,rfl⟩,⟨rfl,tv⟩,⟨rf,tv⟩,⟨⟨rfl,rfl,tv⟩,tv⟩,⟨rf,tv⟩,⟨⟨rfl,rfl,tv⟩,tv⟩,⟨rf,tv⟩,⟨⟨rfl,rfl,tv⟩,tv⟩,⟨rf,tv⟩,⟨⟨rfl,rfl,tv⟩,tv⟩,⟨rf,⟨rfl,rfl,rfl,rfl,tv⟩,rf,⟨rfl,rfl,rfl,rfl,tv⟩,rf,⟨rfl,rfl,rfl,rfl,tv⟩,rf,⟨rfl,rfl,rfl,rfl,tv⟩,rf,⟨rfl,rfl,tv⟩,tv⟩,⟨rf,⟨rfl,rfl,rfl,rfl,tv⟩,tv⟩,tv⟩,by kernel_rfl,by kernel_rfl⟩
   rintro i ⟨hi1,hi2⟩
   refine ⟨fun h=>?_,fun h=>?_⟩
   ·have hi:i<(disc d).order.length:=by
     have:(i:Int)<(disc d).order.length:=of_decide_eq_true h
     omega
    clear h
    generalize hs':(disc d).order[i]=s at *
    have hso:(disc d).order[i]?=some s:=by rw [List.getElem?_eq_getElem hi,hs']
    generalize hv':(disc d).ways[i]'(by omega)=v at *
    have hvo:(disc d).ways[i]?=some v:=by rw [List.getElem?_eq_getElem (by omega),hv']
    have hko:(keysF (pD d))[i]?=some s:=by rw [hw'.keys]; exact hso
    have hrg:=hb.rng _ (List.mem_of_getElem? hso)
    have hcl:s.toNat<d.states.length:=by omega
    obtain ⟨x,hx⟩:∃x,d.states[s.toNat]?=some x:=⟨_,List.getElem?_eq_getElem hcl⟩
    have hbt:=hwf.top x (List.mem_of_getElem? hx)
    have hvl:=way_len (wayOf_at d hso hvo)
    have hra:=rect_folM hwf.opt (leads_disc d i _ v hso hvo) (by omega)
    have hcz0:condZ N d 3 (s,v)=codeN (condS N d 3 s v x):=by simp [condZ,hx]
    refine ⟨fun _=>⟨by omega,by simp; omega⟩,I s,fun _=>by simp [hko],?_⟩
    refine ⟨fun _=>?_,(fun h=>by cases h)⟩
    have hcz:condZ N d 3 (s,v)=if evenB N x (folM N d v) then none else some ⟨10,s,-1,v⟩:=by
     rw [hcz0]
     simp only [condS,evenB]
     rw [uneven_law hra x]
     exact even_key _ _ _ _
    have hsp:=h65_3 N d hs hwf 10 i s v hso hvo x hx (-1) _ rfl
    generalize evenB N x (folM N d v)=bb at hsp hcz
    cases bb with
    | true =>
     simp only [if_true] at hcz hsp
     refine .inr ⟨[6,7,8,14,15,16,20,29,30],[.dv (I s),.dv (I (-1)),.ptr 8 0,.ptr 7 0,.ptr 6 0],qK N d (conM N d)++k3B d 10,0,_,_,hsp,by kernel_rfl,by kernel_rfl,⟨rf,rf,rfl,rfl,rfl,tv⟩,⟨⟨rfl,rfl⟩,⟨rfl,rfl⟩,⟨rf,rf,rf,rfl,rfl,rfl,tv⟩,⟨rfl,rfl⟩,⟨rfl,rfl⟩,⟨rfl,rf,rfl,tv⟩,⟨rfl,tv⟩,⟨rf,tv⟩,⟨⟨rfl,rfl,tv⟩,tv⟩,tv⟩,(fun h=>by cases h),fun _=>?_⟩
     exact ⟨fun _=>⟨by omega,by omega⟩,i+1,⟨⟨rfl,rfl,rfl,rfl,rfl,rf,rf,rfl,rfl,rf,le_int (by omega),tv⟩,⟨subWs_dvs _ _ _ (dcells d),⟨rf,rf,rf,rf,tv⟩,⟨rfl,rfl⟩,⟨rfl,rfl⟩,⟨rf,rf,rf,rfl,rfl,rfl,tv⟩,⟨rfl,rfl⟩,⟨rfl,rfl⟩,⟨rfl,rf,rfl,tv⟩,⟨rf,rf,rf,rf,tv⟩,⟨rfl,tv⟩,⟨rfl,rfl⟩,⟨rfl,tv⟩,⟨rf,tv⟩,⟨⟨rfl,rfl,tv⟩,tv⟩,⟨rf,tv⟩,⟨⟨rfl,rfl,tv⟩,tv⟩,⟨rf,tv⟩,⟨⟨rfl,rfl,tv⟩,tv⟩,⟨rf,tv⟩,⟨⟨rfl,rfl,tv⟩,tv⟩,⟨rf,⟨rfl,rfl,rfl,rfl,tv⟩,rf,⟨rfl,rfl,rfl,rfl,tv⟩,rf,⟨rfl,rfl,rfl,rfl,tv⟩,rf,⟨rfl,rfl,rfl,rfl,tv⟩,rf,⟨rfl,rfl,tv⟩,tv⟩,⟨rf,⟨rfl,rfl,rfl,rfl,tv⟩,tv⟩,tv⟩,by kernel_rfl,by kernel_rfl⟩,⟨by omega,findSome_take (zip_at hso hvo) hi2 hcz⟩,by dsimp only; omega⟩
    | false =>
     simp only [Bool.false_eq_true,if_false] at hcz hsp
     refine .inr ⟨[6,7,8,14,15,16,20,29,30],[.dv (I s),.dv (I (-1)),.ptr 8 0,.ptr 7 0,.ptr 6 0],qK N d (conM N d)++k3B d 10,0,_,_,hsp,by kernel_rfl,by kernel_rfl,⟨rf,rf,rfl,rfl,rfl,tv⟩,⟨⟨rfl,rfl⟩,⟨rfl,rfl⟩,⟨rf,rf,rf,rfl,rfl,rfl,tv⟩,⟨rfl,rfl⟩,⟨rfl,rfl⟩,⟨rfl,rf,rfl,tv⟩,⟨rfl,tv⟩,⟨rf,tv⟩,⟨⟨rfl,rfl,tv⟩,tv⟩,tv⟩,fun _=>?_,(fun h=>by cases h)⟩
     have h1:condW N d 3=some ⟨10,s,-1,v⟩:=findSome_at (zip_at hso hvo) hi2 hcz
     have h2:chk N d=some ⟨10,s,-1,v⟩:=findSome_at hrw hw2 h1
     rw [h2]
     exact ⟨rf,tv⟩
   ·have hi:i=(disc d).order.length:=by
     have:¬ (i:Int)<(disc d).order.length:=of_decide_eq_false h
     omega
    clear h
    subst hi
    rw [List.take_of_length_le (by omega)] at hi2
    exact ⟨fun _=>⟨by omega,by omega⟩,4,⟨⟨rfl,rfl,rfl,rfl,rfl,rf,le_int (by omega),tv⟩,⟨subWs_dvs _ _ _ (dcells d),⟨rf,rf,rf,rf,tv⟩,⟨rfl,rfl⟩,⟨rfl,rfl⟩,⟨rf,rf,rf,rfl,rfl,rfl,tv⟩,⟨rfl,rfl⟩,⟨rfl,rfl⟩,⟨rfl,rf,rfl,tv⟩,⟨rf,rf,rf,rf,tv⟩,⟨rfl,tv⟩,⟨rfl,rfl⟩,⟨rfl,tv⟩,⟨rf,tv⟩,⟨⟨rfl,rfl,tv⟩,tv⟩,⟨rf,tv⟩,⟨⟨rfl,rfl,tv⟩,tv⟩,⟨rf,tv⟩,⟨⟨rfl,rfl,tv⟩,tv⟩,⟨rf,tv⟩,⟨⟨rfl,rfl,tv⟩,tv⟩,⟨rf,⟨rfl,rfl,rfl,rfl,tv⟩,rf,⟨rfl,rfl,rfl,rfl,tv⟩,rf,⟨rfl,rfl,rfl,rfl,tv⟩,rf,⟨rfl,rfl,rfl,rfl,tv⟩,rf,⟨rfl,rfl,tv⟩,tv⟩,tv⟩,by kernel_rfl,by kernel_rfl⟩,⟨by omega,findSome_take hrw hw2 hi2⟩,by dsimp only; omega⟩
  ·refine ⟨fun _=>⟨by decide,by decide⟩,?_⟩
   refine ⟨Nat,fun i=>⟨33,[(3,.ptr 0 0),(4,.ptr 1 0),(5,.ptr 16 0),(7,.ptr 19 0),(24,.sle 31 5),(25,.dv (I 5)),(26,.dv (I ((4:Nat):Int))),(9,.ptr 32 0),(36,.own 14 0 0 []),(37,.dv (I (disc d).order.length)),(38,.dv (I i))],uK N d++[(32,Box.cells [AV.dv (B true),AV.bfn 71 [AV.ptr 16 0]])]⟩,fun i=>i≤(disc d).order.length∧(((disc d).order.zip (disc d).ways).take i).findSome? (condZ N d 4)=none,fun i=>(disc d).order.length - i,0,(fun _=>by kernel_rfl),?_,⟨by omega,by simp⟩,?_⟩
   ·exact ⟨⟨rfl,rfl,rfl,rfl,rfl,rf,rf,rfl,rfl,le_int (by simp [hkl]),rf,tv⟩,⟨subWs_dvs _ _ _ (dcells d),⟨rf,rf,rf,rf,tv⟩,⟨rfl,rfl⟩,⟨rfl,rfl⟩,⟨rf,rf,rf,rfl,rfl,rfl,tv⟩,⟨rfl,rfl⟩,⟨rfl,rfl⟩,⟨rfl,rf,rfl,tv⟩,⟨rf,rf,rf,rf,tv⟩,⟨rfl,tv⟩,⟨rfl,rfl⟩,⟨rfl,tv⟩,⟨rf,tv⟩,⟨⟨rfl,rfl,tv⟩,tv⟩,⟨rf,tv⟩,⟨⟨rfl,rfl,tv⟩,tv⟩,⟨rf,tv⟩,⟨⟨rfl,rfl,tv⟩,tv⟩,⟨rf,tv⟩,⟨⟨rfl,rfl,tv⟩,tv⟩,⟨rf,⟨rfl,rfl,rfl,rfl,tv⟩,rf,⟨rfl,rfl,rfl,rfl,tv⟩,rf,⟨rfl,rfl,rfl,rfl,tv⟩,rf,⟨rfl,rfl,rfl,rfl,tv⟩,rf,⟨rfl,rfl,tv⟩,tv⟩,⟨rf,⟨rfl,rfl,tv⟩,tv⟩,tv⟩,by kernel_rfl,by kernel_rfl⟩
   rintro i ⟨hi1,hi2⟩
   refine ⟨fun h=>?_,fun h=>?_⟩
   ·have hi:i<(disc d).order.length:=by
     have:(i:Int)<(disc d).order.length:=of_decide_eq_true h
     omega
    clear h
    generalize hs':(disc d).order[i]=s at *
    have hso:(disc d).order[i]?=some s:=by rw [List.getElem?_eq_getElem hi,hs']
    generalize hv':(disc d).ways[i]'(by omega)=v at *
    have hvo:(disc d).ways[i]?=some v:=by rw [List.getElem?_eq_getElem (by omega),hv']
    have hko:(keysF (pD d))[i]?=some s:=by rw [hw'.keys]; exact hso
    have hrg:=hb.rng _ (List.mem_of_getElem? hso)
    have hcl:s.toNat<d.states.length:=by omega
    obtain ⟨x,hx⟩:∃x,d.states[s.toNat]?=some x:=⟨_,List.getElem?_eq_getElem hcl⟩
    have hbt:=hwf.top x (List.mem_of_getElem? hx)
    have hvl:=way_len (wayOf_at d hso hvo)
    have hra:=rect_folM hwf.opt (leads_disc d i _ v hso hvo) (by omega)
    have hcz0:condZ N d 4 (s,v)=codeN (condS N d 4 s v x):=by simp [condZ,hx]
    refine ⟨fun _=>⟨by omega,by simp; omega⟩,I s,fun _=>by simp [hko],?_⟩
    refine ⟨(fun h=>by cases h),fun _=>?_⟩
    have hcz:condZ N d 4 (s,v)=(List.range d.parties.length).findSome? (lossA N d x v s):=by
     rw [hcz0,loss_law N d s v x]
    refine ⟨Nat,fun p=>⟨33,[(3,.ptr 0 0),(4,.ptr 1 0),(5,.ptr 16 0),(7,.ptr 19 0),(24,.sle 31 5),(25,.dv (I 5)),(26,.dv (I ((4:Nat):Int))),(9,.ptr 32 0),(36,.own 14 0 0 []),(37,.dv (I (disc d).order.length)),(38,.dv (I i)),(11,.dv (I s)),(54,.dv (I d.parties.length)),(55,.dv (I p))],uK N d++[(32,Box.cells [AV.dv (B true),AV.bfn 71 [AV.ptr 16 0]])]⟩,fun p=>p≤d.parties.length∧((List.range d.parties.length).take p).findSome? (lossA N d x v s)=none,fun p=>d.parties.length - p,0,(fun _=>by kernel_rfl),?_,⟨by omega,by simp⟩,?_⟩
    ·exact ⟨⟨rfl,rfl,rfl,rfl,rfl,rf,rf,rfl,rfl,rf,rf,rf,le_int (by simp),rf,tv⟩,⟨subWs_dvs _ _ _ (dcells d),⟨rf,rf,rf,rf,tv⟩,⟨rfl,rfl⟩,⟨rfl,rfl⟩,⟨rf,rf,rf,rfl,rfl,rfl,tv⟩,⟨rfl,rfl⟩,⟨rfl,rfl⟩,⟨rfl,rf,rfl,tv⟩,⟨rf,rf,rf,rf,tv⟩,⟨rfl,tv⟩,⟨rfl,rfl⟩,⟨rfl,tv⟩,⟨rf,tv⟩,⟨⟨rfl,rfl,tv⟩,tv⟩,⟨rf,tv⟩,⟨⟨rfl,rfl,tv⟩,tv⟩,⟨rf,tv⟩,⟨⟨rfl,rfl,tv⟩,tv⟩,⟨rf,tv⟩,⟨⟨rfl,rfl,tv⟩,tv⟩,⟨rf,⟨rfl,rfl,rfl,rfl,tv⟩,rf,⟨rfl,rfl,rfl,rfl,tv⟩,rf,⟨rfl,rfl,rfl,rfl,tv⟩,rf,⟨rfl,rfl,rfl,rfl,tv⟩,rf,⟨rfl,rfl,tv⟩,tv⟩,⟨rf,⟨rfl,rfl,tv⟩,tv⟩,tv⟩,by kernel_rfl,by kernel_rfl⟩
    rintro p ⟨hp1,hp2⟩
    refine ⟨fun h=>?_,fun h=>?_⟩
    ·have hp:p<d.parties.length:=by
      have:(p:Int)<d.parties.length:=of_decide_eq_true h
      omega
     clear h
     have hrp:(List.range d.parties.length)[p]?=some p:=by simp [hp]
     cases hpf:lossA N d x v s p with
     | none =>
      have hsp:=sloss_spec N d hs hwf i s v hso hvo x hx p hp _ hpf
      refine .inr ⟨[6,7,8,14,15,16],[.ptr 5 0,.dv (I s),.dv (I p)],qK N d (conM N d),0,_,_,hsp,by kernel_rfl,by kernel_rfl,⟨rfl,rf,rf,tv⟩,⟨⟨rfl,rfl⟩,⟨rfl,rfl⟩,⟨rf,rf,rf,rfl,rfl,rfl,tv⟩,⟨rfl,rfl⟩,⟨rfl,rfl⟩,⟨rfl,rf,rfl,tv⟩,tv⟩,(fun h=>by cases h),fun _=>?_⟩
      exact ⟨fun _=>⟨by omega,by omega⟩,p+1,⟨⟨rfl,rfl,rfl,rfl,rfl,rf,rf,rfl,rfl,rf,rf,rf,rf,le_int (by omega),tv⟩,⟨subWs_dvs _ _ _ (dcells d),⟨rf,rf,rf,rf,tv⟩,⟨rfl,rfl⟩,⟨rfl,rfl⟩,⟨rf,rf,rf,rfl,rfl,rfl,tv⟩,⟨rfl,rfl⟩,⟨rfl,rfl⟩,⟨rfl,rf,rfl,tv⟩,⟨rf,rf,rf,rf,tv⟩,⟨rfl,tv⟩,⟨rfl,rfl⟩,⟨rfl,tv⟩,⟨rf,tv⟩,⟨⟨rfl,rfl,tv⟩,tv⟩,⟨rf,tv⟩,⟨⟨rfl,rfl,tv⟩,tv⟩,⟨rf,tv⟩,⟨⟨rfl,rfl,tv⟩,tv⟩,⟨rf,tv⟩,⟨⟨rfl,rfl,tv⟩,tv⟩,⟨rf,⟨rfl,rfl,rfl,rfl,tv⟩,rf,⟨rfl,rfl,rfl,rfl,tv⟩,rf,⟨rfl,rfl,rfl,rfl,tv⟩,rf,⟨rfl,rfl,rfl,rfl,tv⟩,rf,⟨rfl,rfl,tv⟩,tv⟩,⟨rf,⟨rfl,rfl,tv⟩,tv⟩,tv⟩,by kernel_rfl,by kernel_rfl⟩,⟨by omega,findSome_take hrp hp2 hpf⟩,by dsimp only; omega⟩
     | some fa =>
      have hsp:=sloss_spec N d hs hwf i s v hso hvo x hx p hp _ hpf
      have hfc:=lossA_code hpf
      rw [findSome_at hrp hp2 hpf] at hcz
      refine .inr ⟨[6,7,8,14,15,16],[.ptr 5 0,.dv (I s),.dv (I p)],qK N d (conM N d),0,_,_,hsp,by kernel_rfl,by kernel_rfl,⟨rfl,rf,rf,tv⟩,⟨⟨rfl,rfl⟩,⟨rfl,rfl⟩,⟨rf,rf,rf,rfl,rfl,rfl,tv⟩,⟨rfl,rfl⟩,⟨rfl,rfl⟩,⟨rfl,rf,rfl,tv⟩,tv⟩,fun _=>?_,(fun h=>?_)⟩
      ·have h1:condW N d 4=some fa:=findSome_at (zip_at hso hvo) hi2 hcz
       have h2:chk N d=some fa:=findSome_at hrw hw2 h1
       rw [h2]
       exact ⟨rf,tv⟩
      ·exfalso
       have h:(fa.code != 0)=false:=h
       rw [hfc] at h; cases h
    ·have hp:p=d.parties.length:=by
      have:¬ (p:Int)<d.parties.length:=of_decide_eq_false h
      omega
     clear h
     subst hp
     rw [List.take_of_length_le (by simp)] at hp2
     rw [hp2] at hcz
     exact ⟨fun _=>⟨by omega,by omega⟩,i+1,⟨⟨rfl,rfl,rfl,rfl,rfl,rf,rf,rfl,rfl,rf,le_int (by omega),tv⟩,⟨subWs_dvs _ _ _ (dcells d),⟨rf,rf,rf,rf,tv⟩,⟨rfl,rfl⟩,⟨rfl,rfl⟩,⟨rf,rf,rf,rfl,rfl,rfl,tv⟩,⟨rfl,rfl⟩,⟨rfl,rfl⟩,⟨rfl,rf,rfl,tv⟩,⟨rf,rf,rf,rf,tv⟩,⟨rfl,tv⟩,⟨rfl,rfl⟩,⟨rfl,tv⟩,⟨rf,tv⟩,⟨⟨rfl,rfl,tv⟩,tv⟩,⟨rf,tv⟩,⟨⟨rfl,rfl,tv⟩,tv⟩,⟨rf,tv⟩,⟨⟨rfl,rfl,tv⟩,tv⟩,⟨rf,tv⟩,⟨⟨rfl,rfl,tv⟩,tv⟩,⟨rf,⟨rfl,rfl,rfl,rfl,tv⟩,rf,⟨rfl,rfl,rfl,rfl,tv⟩,rf,⟨rfl,rfl,rfl,rfl,tv⟩,rf,⟨rfl,rfl,rfl,rfl,tv⟩,rf,⟨rfl,rfl,tv⟩,tv⟩,⟨rf,⟨rfl,rfl,tv⟩,tv⟩,tv⟩,by kernel_rfl,by kernel_rfl⟩,⟨by omega,findSome_take (zip_at hso hvo) hi2 hcz⟩,by dsimp only; omega⟩
   ·have hi:i=(disc d).order.length:=by
     have:¬ (i:Int)<(disc d).order.length:=of_decide_eq_false h
     omega
    clear h
    subst hi
    rw [List.take_of_length_le (by omega)] at hi2
    exact ⟨fun _=>⟨by omega,by omega⟩,5,⟨⟨rfl,rfl,rfl,rfl,rfl,rf,le_int (by omega),tv⟩,⟨subWs_dvs _ _ _ (dcells d),⟨rf,rf,rf,rf,tv⟩,⟨rfl,rfl⟩,⟨rfl,rfl⟩,⟨rf,rf,rf,rfl,rfl,rfl,tv⟩,⟨rfl,rfl⟩,⟨rfl,rfl⟩,⟨rfl,rf,rfl,tv⟩,⟨rf,rf,rf,rf,tv⟩,⟨rfl,tv⟩,⟨rfl,rfl⟩,⟨rfl,tv⟩,⟨rf,tv⟩,⟨⟨rfl,rfl,tv⟩,tv⟩,⟨rf,tv⟩,⟨⟨rfl,rfl,tv⟩,tv⟩,⟨rf,tv⟩,⟨⟨rfl,rfl,tv⟩,tv⟩,⟨rf,tv⟩,⟨⟨rfl,rfl,tv⟩,tv⟩,⟨rf,⟨rfl,rfl,rfl,rfl,tv⟩,rf,⟨rfl,rfl,rfl,rfl,tv⟩,rf,⟨rfl,rfl,rfl,rfl,tv⟩,rf,⟨rfl,rfl,rfl,rfl,tv⟩,rf,⟨rfl,rfl,tv⟩,tv⟩,tv⟩,by kernel_rfl,by kernel_rfl⟩,⟨by omega,findSome_take hrw hw2 hi2⟩,by dsimp only; omega⟩
 ·have hw:w=5:=by
   have:¬ (w:Int)<5:=of_decide_eq_false h
   omega
  subst hw
  have h2:chk N d=none:=by
   have:(List.range 5).take 5=List.range 5:=by rfl
   rw [this] at hw2; exact hw2
  rw [h2]
  exact ⟨DV.agg_le ⟨rf,rf,rf,DV.nils_le 1,tv⟩ (by simp [DV.isCell]),tv⟩
end Go.Proofs.Ytfcfbfkjdenpdaa
