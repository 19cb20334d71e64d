import Derived.Test.YtccialgeakmmpaaGreatDoorEM15
set_option linter.unusedVariables false
set_option linter.unusedSimpArgs false
set_option linter.unusedSectionVars false
namespace Go.TM
open Go.RowKit
variable [Glob]
theorem bind_ok {α β:Type} {x:XR α} {f:α→XR β} {b:β} (h:x.bind f=.ok b):∃a,x=.ok a∧f a=.ok b:=by
 cases x with
 | ok a=>exact ⟨a,rfl,h⟩
 | no w=>cases h
theorem xif_ok {α:Type} {b:Bool} {w:Nat} {x:XR α} {a:α} (h:xif b w x=.ok a):b=true∧x=.ok a:=by
 cases b with
 | true=>exact ⟨rfl,h⟩
 | false=>cases h
theorem xopt_ok {α:Type} {o:Option α} {w:Nat} {a:α} (h:xopt o w=.ok a):o=some a:=by
 cases o with
 | none=>cases h
 | some x=>injection h with h; rw [h]
theorem ilt_eq (a b:Int):ilt a b=decide (a<b):=by
 cases a with
 | ofNat m=>cases b with
  | ofNat n =>
   simp only [ilt]
   rw [Bool.eq_iff_iff]
   simp
  | negSucc n =>
   simp only [ilt]
   have:¬ (Int.ofNat m<Int.negSucc n):=by simp only [Int.ofNat_eq_natCast]; omega
   exact (decide_eq_false this).symm
 | negSucc m=>cases b with
  | ofNat n =>
   simp only [ilt]
   have:Int.negSucc m<Int.ofNat n:=by simp only [Int.ofNat_eq_natCast]; omega
   exact (decide_eq_true this).symm
  | negSucc n =>
   simp only [ilt]
   rw [Bool.eq_iff_iff]
   simp only [Nat.blt_eq,decide_eq_true_eq]
   omega
theorem ile_eq (a b:Int):ile a b=decide (a≤b):=by
 simp only [ile,ilt_eq]
 by_cases h:b<a
 ·have:¬ a≤b:=by omega
  simp [h,this]
 ·have:a≤b:=by omega
  simp [h,this]
theorem ieq_eq (a b:Int):ieq a b=(a == b):=by
 cases a with
 | ofNat m=>cases b with
  | ofNat n =>
   simp only [ieq]
   rw [Bool.eq_iff_iff]
   simp only [Nat.beq_eq,beq_iff_eq,Int.ofNat_eq_natCast]
   omega
  | negSucc n=>simp [ieq]
 | negSucc m=>cases b with
  | ofNat n=>simp [ieq]
  | negSucc n =>
   simp only [ieq]
   rw [Bool.eq_iff_iff]
   simp
theorem inn_eq (a:Int):inn a=true ↔ 0≤a:=by
 cases a with
 | ofNat m=>simp [inn]
 | negSucc m=>simp only [inn]; constructor <;> intro h; cases h; omega
theorem inI64_eq {n:Int} (h:inI64 n=true):-9223372036854775808≤n∧n≤9223372036854775807:=by
 cases n with
 | ofNat m=>simp only [inI64,Nat.ble_eq] at h; simp only [Int.ofNat_eq_natCast]; omega
 | negSucc m=>simp only [inI64,Nat.ble_eq] at h; omega
theorem lget_eq {α:Type}:∀(l:List α) (i:Nat),lget l i=l[i]?
 | [],i=>by simp [lget]
 | x::r,0=>rfl
 | x::r,i+1=>by simp only [lget,List.getElem?_cons_succ]; exact lget_eq r i
section
variable {P:Program} {C:Org→Prop} {T:List TI} {ops:List Oper} {n:Nat} {o:Oper} {nx:Nat} {ρ:Nat→AV} {κ:Nat→Box} {k:Eff→Nat→Prop}
theorem ex_of {x:Operand} {v:AV} {q:AV→Prop} (h:xex ρ κ x=.ok v) (hq:q v):ex ρ κ true x q:=by
 unfold xex xopen at h
 unfold ex
 generalize ev ρ κ x=u at h
 cases u with
 | opt g u =>
  obtain ⟨rfl,h⟩:=xif_ok h
  injection h with h; subst h
  exact ⟨fun _=>rfl,by rw [force_eq]; exact hq⟩
 | _=>simp only at h ⊢; injection h with h; subst h; rw [force_eq]; exact hq
theorem exs_of:∀{xs:List Operand} {vs:List AV} {q:List AV→Prop},xexs ρ κ xs=.ok vs→q vs→exs ρ κ true xs q
 | [],vs,q,h,hq=>by simp only [xexs] at h; injection h with h; subst h; exact hq
 | x::r,vs,q,h,hq=>by
  simp only [xexs] at h
  obtain ⟨v,h1,h⟩:=bind_ok h
  obtain ⟨l,h2,h⟩:=bind_ok h
  injection h with h; subst h
  exact ex_of h1 (exs_of h2 hq)
theorem exParts_of:∀{xs:List (Nat × Operand)} {vs:List (Nat × AV)} {q:List (Nat × AV)→Prop},xparts ρ κ xs=.ok vs→q vs→exParts ρ κ true xs q
 | [],vs,q,h,hq=>by simp only [xparts] at h; injection h with h; subst h; exact hq
 | (i,x)::r,vs,q,h,hq=>by
  simp only [xparts] at h
  obtain ⟨v,h1,h⟩:=bind_ok h
  obtain ⟨l,h2,h⟩:=bind_ok h
  injection h with h; subst h
  exact ex_of h1 (exParts_of h2 hq)
theorem exI_of {x:Option Operand} {v:Option Int} {q:Option Int→Prop} (h:xI ρ κ x=.ok v) (hq:q v):exI ρ κ true x q:=by
 cases x with
 | none=>simp only [xI] at h; injection h with h; subst h; exact hq
 | some x =>
  simp only [xI] at h
  obtain ⟨u,h1,h⟩:=bind_ok h
  obtain ⟨m,h2,h⟩:=bind_ok h
  injection h with h; subst h
  refine ex_of h1 ?_
  have h2:=xopt_ok h2
  unfold AV.i64? at h2
  cases u with
  | dv d=>cases d with
   | int kd a=>cases kd <;> simp [AV.int?,DV.int?] at h2 <;> (subst h2; exact hq)
   | _=>simp [AV.int?,DV.int?] at h2
  | _=>simp [AV.int?] at h2
theorem retb_of (hg:o.guard=none) {r:XV} {e:EN} (h:xret n o.dst r=.ok e) (hk:k e.1 e.2):retb n o r.nx k r.v r.bx r.rd:=by
 unfold xret at h
 unfold retb
 rw [hg]
 cases hd:o.dst with
 | none=>rw [hd] at h; injection h with h; subst h; exact hk
 | some d =>
  rw [hd] at h
  obtain ⟨hb,h⟩:=xif_ok h
  injection h with h; subst h
  simp only [hb,cond_true]; exact hk
theorem retv_of (hg:o.guard=none) {r:XV} {e:EN} (h:xret n o.dst r=.ok e) (hk:k e.1 e.2) (hb:r.bx=[]) (hn:r.nx=nx):retv n o true nx k r.v r.rd:=by
 unfold xret at h
 unfold retv
 rw [hg]
 cases hd:o.dst with
 | none=>rw [hd] at h; injection h with h; subst h; simp only [hb,hn] at hk; exact hk
 | some d =>
  rw [hd] at h
  obtain ⟨hbl,h⟩:=xif_ok h
  injection h with h; subst h
  simp only [hbl,cond_true]
  simp only [hb,hn] at hk; exact hk
theorem retval_of (hg:o.guard=none) {v:AV} {r:XV} {e:EN} (hr:xval nx v=.ok r) (h:xret n o.dst r=.ok e) (hk:k e.1 e.2):retv n o true nx k v []:=by
 simp only [xval] at hr; injection hr with hr; subst hr
 exact retv_of (nx:=nx) hg h hk rfl rfl
theorem arith_of {kd:IntKind} {m:Int} {v:AV} {ret:AV→Prop} (h:xarith kd m=.ok v) (hr:ret v):arith kd m true ret:=by
 unfold xarith at h
 unfold arith
 cases kd with
 | i64 =>
  obtain ⟨hb,h⟩:=xif_ok h
  injection h with h; subst h
  exact ⟨fun _=>inI64_eq hb,hr⟩
 | _=>simp only at h ⊢; injection h with h; subst h; exact hr
theorem int?_some {v:AV} {a:IntKind × Int} (h:v.int?=some a):v=.dv (.int a.1 a.2):=by
 cases v with
 | dv d=>cases d <;> simp [AV.int?,DV.int?] at h; rename_i k m; subst h; rfl
 | _=>simp [AV.int?] at h
theorem ivl?_some {v:AV} {a:IntKind × Int × Int} (h:v.ivl?=some a):v=.dv (.ivl a.1 a.2.1 a.2.2):=by
 cases v with
 | dv d=>cases d <;> simp [AV.ivl?,DV.ivl?] at h; rename_i k m; subst h; rfl
 | _=>simp [AV.ivl?] at h
theorem xivl_eq (op:BinOp) (lo hi b:Int):xivl op lo hi b=ivlCmp op lo hi b:=by
 cases op <;> simp only [xivl,ivlCmp,ilt_eq]
theorem bool?_some {v:AV} {b:Bool} (h:v.bool?=some b):v=.dv (.bool b):=by
 cases v with
 | dv d=>cases d <;> simp [AV.bool?,DV.bool?] at h; subst h; rfl
 | _=>simp [AV.bool?] at h
theorem str?_some {v:AV} {b:ByteArray} (h:v.str?=some b):v=.dv (.str b):=by
 cases v with
 | dv d=>cases d <;> simp [AV.str?,DV.str?] at h; subst h; rfl
 | _=>simp [AV.str?] at h
theorem isNilp_true {v:AV} (h:v.isNilp=true):v=.dv .nilp:=by
 cases v with
 | dv d=>cases d <;> simp [AV.isNilp,DV.isNilp] at h; rfl
 | _=>simp [AV.isNilp] at h
theorem i64?_some {v:AV} {a:Int} (h:v.i64?=some a):v=.dv (.int .i64 a):=by
 unfold AV.i64? at h
 split at h
 ·rename_i m hm; injection h with h; subst h; exact int?_some hm
 ·cases h
theorem isNils_true {v:AV} (h:v.isNils=true):v=.dv .nils:=by
 cases v with
 | dv d=>cases d <;> simp [AV.isNils,isNils] at h; rfl
 | _=>simp [AV.isNils] at h
theorem abin_nilp {ti:TI} {op:BinOp} {x v:AV} {ret:AV→Prop} (hp:isPtr x=true) (hk:(ti.ok && Nat.beq ti.kind 5)=true) (h:xbinP op false=.ok v) (hr:ret v):abin ti op x (.dv .nilp) true ret:=by
 have hk2:(ti.ok && Nat.beq ti.kind 5 && isPtr x)=true:=by rw [hk,hp]; rfl
 cases op <;> simp only [xbinP,xbool] at h <;> first
  | (injection h with h; subst h
     cases x with
     | dv d=>cases d with
      | _=>first | (simp [isPtr] at hp; done) | (simp only [abin,hk2,cond_true]; exact hr)
     | ptr i off=>simp only [abin,hk2,cond_true]; exact hr
     | loc i ver ep p sz idx off=>simp only [abin,hk2,cond_true]; exact hr
     | _=>simp [isPtr] at hp)
  | cases h
theorem bin_of {ti:TI} {op:BinOp} {x y v:AV} {ret:AV→Prop} (h:xbin ti op x y=.ok v) (hr:ret v):abin ti op x y true ret:=by
 unfold xbin at h
 split at h
 ·rename_i a ha
  obtain ⟨b,hb,h⟩:=bind_ok h
  have hb:=xopt_ok hb
  obtain ⟨hk,h⟩:=xif_ok h
  rw [int?_some ha,int?_some hb]
  simp only [abin,hk,cond_true]
  have hkk:a.1=b.1:=by simpa using hk
  cases op <;> simp only [xbinI,xbool] at h ⊢ <;> first
   | exact arith_of h hr
   | (obtain ⟨hb0,h⟩:=xif_ok h
      rw [ieq_eq] at hb0
      first
       | exact ⟨fun _=>by simpa using hb0,arith_of h hr⟩
       | (injection h with h; subst h; exact ⟨fun _=>by simpa using hb0,hr⟩))
   | (simp only [ieq_eq,ilt_eq,ile_eq] at h; injection h with h; subst h; exact hr)
   | (simp only [ieq_eq] at h; injection h with h; subst h; simpa [bne] using hr)
   | cases h
 ·split at h
  ·rename_i c hc
   obtain ⟨b,hb,h⟩:=bind_ok h
   have hb:=xopt_ok hb
   obtain ⟨hk,h⟩:=xif_ok h
   obtain ⟨q,hq,h⟩:=bind_ok h
   have hq:=xopt_ok hq
   rw [xivl_eq] at hq
   rw [ivl?_some hc,int?_some hb]
   simp only [abin,hk,cond_true,hq]
   simp only [xbool] at h
   injection h with h
   subst h
   exact hr
  split at h
  ·rename_i p hp
   obtain ⟨q,hq,h⟩:=bind_ok h
   have hq:=xopt_ok hq
   obtain ⟨hk,h⟩:=xif_ok h
   rw [bool?_some hp,bool?_some hq]
   simp only [abin,hk,cond_true]
   cases op <;> simp only [xbinB,xbool] at h ⊢ <;> first | (injection h with h; subst h; exact hr) | cases h
  ·split at h
   ·rename_i s hs
    obtain ⟨t,ht,h⟩:=bind_ok h
    have ht:=xopt_ok ht
    rw [str?_some hs,str?_some ht]
    simp only [abin]
    cases op <;> simp only [xbinS,xbool] at h ⊢ <;> first
     | (injection h with h; subst h; exact hr)
     | (obtain ⟨hb0,h⟩:=xif_ok h; injection h with h; subst h; exact ⟨fun _=>by simpa using hb0,hr⟩)
     | cases h
   ·obtain ⟨hb,h⟩:=xif_ok h
    simp only [Bool.and_eq_true] at hb
    rw [isNilp_true hb.1]
    have hk:(ti.ok && Nat.beq ti.kind 5)=true:=by simp [hb.2.1,hb.2.2]
    split at h
    ·rename_i hx
     rw [isNilp_true hx]
     simp only [abin,hk,cond_true]
     cases op <;> simp only [xbinP,xbool] at h ⊢ <;> first | (injection h with h; subst h; exact hr) | cases h
    ·rename_i hx
     obtain ⟨hp,h⟩:=xif_ok h
     exact abin_nilp hp hk h hr
theorem getN_of:∀{p:List PS} {d n:DV} {q:DV→Prop},xgetN d p=.ok n→q n→getN true d p q
 | [],d,n,q,h,hq=>by simp only [xgetN] at h; injection h with h; subst h; cases d <;> exact hq
 | s::p,d,n,q,h,hq=>by
  simp only [xgetN] at h
  split at h
  ·rename_i c hc
   have ih:=getN_of h hq
   cases d with
   | osl sz l=>cases s with
    | el i j =>
     simp only [step] at hc
     split at hc
     ·rename_i x hx; exact ⟨x,fun _=>hx,by rw [hc]; exact ih⟩
     ·cases hc
    | key=>simp [step] at hc
   | optr x=>cases s with
    | el i j =>
     simp only [step] at hc
     cases hb:Nat.beq i 0 with
     | false=>rw [hb] at hc; cases hc
     | true=>rw [hb] at hc; simp only [getN,hb,cond_true]; simp only [cond_true] at hc; rw [hc]; exact ih
    | key=>simp [step] at hc
   | omap ks m=>cases s with
    | el=>simp [step] at hc
    | key kk j =>
     simp only [step] at hc
     split at hc
     ·rename_i x hx; exact ⟨x,fun _=>hx,by rw [hc]; exact ih⟩
     ·cases hc
   | _=>cases s <;> simp [step] at hc
  ·cases h
theorem setN_of:∀{p:List PS} {d n d':DV} {q:DV→Prop},xsetN d p n=.ok d'→q d'→setN d p n q
 | [],d,n,d',q,h,hq=>by simp only [xsetN] at h; injection h with h; subst h; cases d <;> exact hq
 | s::p,d,n,d',q,h,hq=>by
  simp only [xsetN] at h
  split at h
  ·rename_i c hc
   obtain ⟨c',h1,h⟩:=bind_ok h
   injection h with h; subst h
   cases d with
   | osl sz l=>cases s with
    | el i j =>
     simp only [step] at hc
     split at hc
     ·rename_i x hx
      refine ⟨x,hx,?_⟩
      rw [hc]
      refine setN_of h1 ?_
      simpa [put,hx] using hq
     ·cases hc
    | key=>simp [step] at hc
   | optr x=>cases s with
    | el i j =>
     simp only [step] at hc
     cases hb:Nat.beq i 0 with
     | false=>rw [hb] at hc; cases hc
     | true =>
      rw [hb] at hc
      simp only [setN,hb,cond_true]
      simp only [cond_true] at hc
      rw [hc]
      refine setN_of h1 ?_
      simpa [put,hb] using hq
    | key=>simp [step] at hc
   | omap ks m=>cases s with
    | el=>simp [step] at hc
    | key kk j =>
     simp only [step] at hc
     split at hc
     ·rename_i x hx
      refine ⟨x,hx,?_⟩
      rw [hc]
      refine setN_of h1 ?_
      simpa [put,hx] using hq
     ·cases hc
   | _=>cases s <;> simp [step] at hc
  ·cases h
theorem tree_of {i ver ep:Nat} {p:List PS} {t:Nat × DV} (h:xtree κ i ver ep p=.ok t):κ i=.tree ver t.1 t.2∧(Nat.beq ver ver && (emp p || Nat.beq ep t.1))=true:=by
 unfold xtree at h
 split at h
 ·rename_i ver' ep' d hk
  obtain ⟨hb,h⟩:=xif_ok h
  injection h with h; subst h
  have hv:ver=ver':=by
   simp only [Bool.and_eq_true] at hb
   exact Nat.eq_of_beq_eq_true hb.1
  subst hv
  exact ⟨hk,hb⟩
 ·cases h
theorem node_of {i ver ep:Nat} {p:List PS} {t:XN} (h:xnode κ i ver ep p=.ok t):κ i=.tree ver t.ep t.d∧(Nat.beq ver ver && (emp p || Nat.beq ep t.ep))=true∧xgetN t.d p=.ok t.n:=by
 unfold xnode at h
 obtain ⟨a,h1,h⟩:=bind_ok h
 obtain ⟨b,h2,h⟩:=bind_ok h
 injection h with h; subst h
 obtain ⟨k1,k2⟩:=tree_of h1
 exact ⟨k1,k2,h2⟩
theorem osl?_some {d:DV} {q:Nat × List DV} (h:d.osl?=some q):d=.osl q.1 q.2:=by
 cases d <;> simp [DV.osl?] at h; subst h; rfl
theorem omap?_some {d:DV} {q:KS × List DV} (h:d.omap?=some q):d=.omap q.1 q.2:=by
 cases d <;> simp [DV.omap?] at h; subst h; rfl
theorem optr?_some {d x:DV} (h:d.optr?=some x):d=.optr x:=by
 cases d <;> simp [DV.optr?] at h; subst h; rfl
theorem pick_of {agg:Bool} {l:List AV} {off m:Nat} {v:AV} {q:AV→Prop} (h:xpick agg l off m=.ok v) (hq:q v):pickCells agg l off m q:=by
 unfold xpick at h
 unfold pickCells
 cases agg with
 | true =>
  obtain ⟨hb,h⟩:=xif_ok h
  injection h with h; subst h
  simp only [cond_true,hb]; exact hq
 | false =>
  have h:=xopt_ok h
  rw [lget_eq] at h
  simp only [cond_false,h]
  rw [force_eq]; exact hq
theorem TLes.refl:∀l:List DV,TLes l l
 | []=>trivial
 | d::r=>⟨by cases d.owning <;> first | rfl | exact DV.Le.refl d,TLes.refl r⟩
theorem ELes.refl:∀l:List DV,ELes l l
 | []=>trivial
 | x::r=>⟨TLes.refl _,ELes.refl r⟩
theorem closedB_spec {x:DV} (h:closedB x=true):x.closedCells:=by
 intro d hd
 simp only [closedB,List.all_eq_true] at h
 simpa using h d hd
theorem allClosed_spec:∀{l:List DV},allClosed l=true→∀x,x∈l→x.closedCells
 | [],_,x,h=>by simp at h
 | y::r,hc,x,h=>by
  simp only [allClosed,Bool.and_eq_true] at hc
  rcases List.mem_cons.1 h with rfl | h
  ·exact closedB_spec hc.1
  ·exact allClosed_spec hc.2 x h
theorem fits_spec {ti:TI} {m:Nat} (h:xfits ti m=true):m * ti.bytes≤140737488355328∧m≤9223372036854775807:=by
 simp only [xfits,Bool.and_eq_true,Nat.ble_eq] at h; exact h
theorem list_of {v:AV} {r:Option XL} {q:(sz:Nat)→List DV→List Nat→List Nat→Prop} {nl:Prop} (h:xlist κ v=.ok r) (hq:∀x,r=some x→q x.sz x.l x.rd x.kill) (hn:r=none→nl):asList κ v q nl:=by
 unfold xlist at h
 split at h
 ·rename_i d
  unfold xlistD at h
  split at h
  ·injection h with h; subst h; exact hq _ rfl
  ·injection h with h; subst h; exact hn rfl
  ·cases h
 ·rename_i i ver ep p
  obtain ⟨t,h1,h⟩:=bind_ok h
  obtain ⟨w,h2,h⟩:=bind_ok h
  obtain ⟨k1,k2,k3⟩:=node_of h1
  have h2:=osl?_some (xopt_ok h2)
  simp only [asList,k1,k2,cond_true]
  refine getN_of k3 ?_
  rw [h2]
  simp only
  split at h
  ·rename_i hc
   injection h with h; subst h
   exact .inl ⟨allClosed_spec hc,hq _ rfl⟩
  ·obtain ⟨he,h⟩:=xif_ok h
   injection h with h; subst h
   cases p with
   | nil=>exact .inr ⟨rfl,hq _ rfl⟩
   | cons=>simp [emp] at he
 ·cases h
theorem len_of {ti:TI} {v:AV} {r:XV} {e:EN} (hg:o.guard=none) (h:xlen ti nx κ v=.ok r) (hr:xret n o.dst r=.ok e) (hk:k e.1 e.2):alen ti κ true v fun v rd=>retv n o true nx k v rd:=by
 have fin:∀{m:Nat} {rd:List Nat},xint nx m rd=.ok r→retv n o true nx k (.dv (.int .i64 m)) rd:=by
  intro m rd h
  simp only [xint] at h; injection h with h; subst h
  exact retv_of (nx:=nx) hg hr hk rfl rfl
 unfold xlen at h
 split at h
 ·rename_i d
  obtain ⟨m,h1,h⟩:=bind_ok h
  unfold xlenD at h1
  split at h1
  ·obtain ⟨hb,h1⟩:=xif_ok h1; injection h1 with h1; subst h1; simp only [alen,hb,cond_true]; exact fin h
  ·obtain ⟨hb,h1⟩:=xif_ok h1; injection h1 with h1; subst h1; simp only [alen,hb,cond_true]; exact fin h
  ·obtain ⟨hb,h1⟩:=xif_ok h1; injection h1 with h1; subst h1; simp only [alen,hb,cond_true]; exact fin h
  ·cases h1
 ·rename_i i ver ep p
  obtain ⟨t,h1,h⟩:=bind_ok h
  obtain ⟨m,h2,h⟩:=bind_ok h
  obtain ⟨k1,k2,k3⟩:=node_of h1
  simp only [alen,k1,k2,cond_true]
  refine getN_of k3 ?_
  generalize t.n=nd at h2 ⊢
  unfold xlenN at h2
  split at h2
  ·obtain ⟨hb,h2⟩:=xif_ok h2; injection h2 with h2; subst h2; simp only [hb,cond_true]; exact fin h
  ·obtain ⟨hb,h2⟩:=xif_ok h2; injection h2 with h2; subst h2; simp only [hb,cond_true]; exact fin h
  ·cases h2
 ·obtain ⟨hb,h⟩:=xif_ok h
  simp only [alen,hb,cond_true]; exact fin h
 ·cases h
end
end Go.TM
namespace Go.TM
open Go.RowKit
variable [Glob]
theorem eqTag_eq {a b:KTag} (h:eqTag a b=true):a=b:=by
 cases a <;> cases b <;> simp [eqTag] at h <;> first | rfl | (rw [h])
theorem eqTags_eq:∀{a b:List KTag},eqTags a b=true→a=b
 | [],[],_=>rfl
 | x::a,y::b,h=>by simp only [eqTags,Bool.and_eq_true] at h; rw [eqTag_eq h.1,eqTags_eq h.2]
 | [],_::_,h=>by simp [eqTags] at h
 | _::_,[],h=>by simp [eqTags] at h
theorem eqKS_eq {a b:KS} (h:eqKS a b=true):a=b:=by
 obtain ⟨a1,a2⟩:=a
 obtain ⟨b1,b2⟩:=b
 simp only [eqKS,Bool.and_eq_true,beq_iff_eq] at h
 rw [h.1,eqTags_eq h.2]
theorem unDvs_eq:∀{l:List AV} {ds:List DV},unDvs l=some ds→l=dvs ds
 | [],ds,h=>by simp [unDvs] at h; subst h; rfl
 | v::r,ds,h=>by
  cases v with
  | dv d =>
   simp only [unDvs] at h
   split at h
   ·rename_i l hl; injection h with h; subst h; simp only [dvs]; rw [unDvs_eq hl]
   ·cases h
  | _=>simp [unDvs] at h
theorem keyD_eq {v:AV} {d:DV} (h:keyD v=some d):v=ofD d:=by
 cases v with
 | dv x =>
  simp only [keyD] at h
  cases hx:x.isAgg with
  | true=>rw [hx] at h; cases h
  | false =>
   rw [hx] at h
   simp only [cond_false,Option.some.injEq] at h
   subst h
   cases x <;> first | rfl | simp [DV.isAgg] at hx
 | agg l =>
  simp only [keyD] at h
  split at h
  ·rename_i ds hds; injection h with h; subst h; rw [unDvs_eq hds]; rfl
  ·cases h
 | _=>simp [keyD] at h
theorem packD_cells' {a:Bool} {l:List DV} (h:Nat.beq (packD a l).cells.length l.length=true) (hl:(packD a l).isAgg=a):(packD a l).cells=l:=by
 have h:=Nat.eq_of_beq_eq_true h
 cases a with
 | true=>rfl
 | false =>
  match l with
  | []=>rfl
  | [d] =>
   simp only [packD] at h hl ⊢
   cases d <;> first | rfl | simp [DV.isAgg] at hl
  | _::_::_=>rfl
section
variable {P:Program} {C:Org→Prop} {T:List TI} {ops:List Oper} {n:Nat} {o:Oper} {nx:Nat} {ρ:Nat→AV} {κ:Nat→Box} {k:Eff→Nat→Prop}
theorem keyT_of (hT:TOk P T) {kt:Nat} {s:KS} (h:keyOk (nth T kt) s=true):KeyT P kt s:=by
 unfold keyOk at h
 split at h
 ·rename_i s' hs
  have:=eqKS_eq h
  subst this
  unfold keyS at hs
  cases hb:(nth T kt).ok && (nth T kt).ikd == some .i64 with
  | true=>rw [hb] at hs; simp only [cond_true,Option.some.injEq] at hs; subst hs; exact keyT_int hT hb
  | false =>
   rw [hb] at hs
   simp only [cond_false] at hs
   cases hb2:(nth T kt).ok && (nth T kt).isStr with
   | true=>rw [hb2] at hs; simp only [cond_true,Option.some.injEq] at hs; subst hs; exact keyT_str hT hb2
   | false =>
    rw [hb2] at hs
    simp only [cond_false] at hs
    cases hb3:(nth T kt).ok && (nth T kt).pair with
    | true=>rw [hb3] at hs; simp only [cond_true,Option.some.injEq] at hs; subst hs; exact keyT_pair hT hb3
    | false=>rw [hb3] at hs; cases hs
 ·cases h
theorem append_of {t:Nat} {s x:AV} {r:XV} {e:EN} (hg:o.guard=none) (h:xappend (nth T t) (nth T (nth T t).elem) nx κ s x=.ok r) (hr:xret n o.dst r=.ok e) (hk:k e.1 e.2) :
  aappendF T n o nx κ k t s (dn x) ∨ aappend T n o nx κ k t (dn s) (dn x):=by
 unfold xappend at h
 have hh:=xif_ok h
 clear h
 obtain ⟨hb0,h⟩:=hh
 have hh:=bind_ok h
 clear h
 obtain ⟨src,hsrc,h⟩:=hh
 split at h
 ·rename_i d hd
  have hh:=xif_ok h
  clear h
  obtain ⟨hn,h⟩:=hh
  have hdn:d=.nils:=by cases d <;> simp [isNils] at hn; rfl
  subst hdn
  right
  unfold aappend
  simp only [hb0,cond_true,hd]
  cases src with
  | none =>
   simp only [xappNil,xval] at h
   injection h with h; subst h
   exact list_of hsrc (fun q hq=>by cases hq) (fun _=>retb_of hg hr hk)
  | some q =>
   simp only [xappNil] at h
   have hh:=xif_ok h
   clear h
   obtain ⟨hb,h⟩:=hh
   simp only [Bool.and_eq_true] at hb
   injection h with h; subst h
   obtain ⟨f1,f2⟩:=fits_spec hb.2
   refine list_of hsrc (fun q' hq=>?_) (fun hq=>by cases hq)
   injection hq with hq; subst hq
   simp only [hb.1,cond_true]
   exact ⟨q.l,ELes.refl _,f1,f2,retb_of hg hr hk⟩
 ·rename_i i ver ep p hd
  have hh:=bind_ok h
  clear h
  obtain ⟨t',h1,h⟩:=hh
  have hh:=bind_ok h
  clear h
  obtain ⟨q,h2,h⟩:=hh
  have hh:=xif_ok h
  clear h
  obtain ⟨hsz,h⟩:=hh
  obtain ⟨k1,k2,k3⟩:=node_of h1
  have h2:=osl?_some (xopt_ok h2)
  unfold xappOwn at h
  have slow:(∀x,src=some x→Nat.beq x.sz q.1=true∧xfits (nth T (nth T t).elem) (q.2.length+x.l.length)=true∧xappO (nth T (nth T t).elem) nx i ver p t' q.1 q.2 x=.ok r)→(src=none→xappE nx i ver p t' q.1 q.2=.ok r)→aappend T n o nx κ k t (dn s) (dn x):=by
   intro hs hn
   unfold aappend
   simp only [hb0,cond_true,hd,k1,k2]
   refine getN_of k3 ?_
   rw [h2]
   simp only [hsz,cond_true]
   refine list_of hsrc (fun y hy=>?_) (fun hy=>?_)
   ·obtain ⟨e1,e2,e3⟩:=hs y hy
    unfold xappO at e3
    obtain ⟨e4,e3⟩:=xif_ok e3
    obtain ⟨f1,f2⟩:=fits_spec e2
    simp only [e1,e4,Bool.and_self,cond_true]
    refine ⟨y.l,ELes.refl _,f1,f2,?_⟩
    cases p with
    | nil=>simp only at e3; injection e3 with e3; subst e3; exact retb_of hg hr hk
    | cons a p =>
     simp only at e3 ⊢
     obtain ⟨d',g1,e3⟩:=bind_ok e3
     injection e3 with e3; subst e3
     exact setN_of g1 (retb_of hg hr hk)
   ·have hn:=hn hy
    unfold xappE at hn
    cases p with
    | nil=>simp only at hn; injection hn with hn; subst hn; exact retb_of hg hr hk
    | cons a p =>
     simp only at hn ⊢
     obtain ⟨d',g1,hn⟩:=bind_ok hn
     injection hn with hn; subst hn
     exact setN_of g1 (retb_of hg hr hk)
  cases src with
  | none=>exact .inr (slow (fun _ hx=>by cases hx) fun _=>h)
  | some y =>
   simp only at h
   have hh:=xif_ok h
   clear h
   obtain ⟨hf,h⟩:=hh
   simp only [Bool.and_eq_true] at hf
   split at h
   ·rename_i hfull
    left
    injection h with hre
    subst hre
    clear slow
    simp only [Bool.and_eq_true,Bool.not_eq_true'] at hfull
    obtain ⟨⟨⟨⟨hfu,hne⟩,_⟩,hc1⟩,hc2⟩:=hfull
    cases s with
    | ownf i' ver' =>
     simp only [dn,AV.own.injEq] at hd
     obtain ⟨rfl,rfl,rfl,rfl⟩:=hd
     have hroot:t'.d=.osl q.1 q.2:=by
      simp only [xgetN] at k3
      injection k3 with k3
      rw [k3,h2]
     unfold aappendF
     simp only [hb0,cond_true,k1,hroot]
     have hvv:Nat.beq ver' ver'=true:=Nat.beq_refl _
     simp only [hvv,hsz,Bool.and_self,cond_true]
     refine ⟨allClosed_spec hc1,list_of hsrc (fun z hz=>?_) (fun hz=>by cases hz)⟩
     injection hz with hz; subst hz
     simp only [hf.1,cond_true]
     obtain ⟨f1,f2⟩:=fits_spec hf.2
     refine ⟨y.l,ELes.refl _,allClosed_spec hc2,?_,f1,f2,retb_of hg hr hk⟩
     cases hl:y.l with
     | nil=>rw [hl] at hne; simp [ne] at hne
     | cons=>simp
    | _=>simp [isFull] at hfu
   ·refine .inr (slow (fun x hx=>?_) (fun hx=>by cases hx))
    injection hx with hx; subst hx
    exact ⟨hf.1,hf.2,h⟩
 ·cases h
theorem slice_of {ti:TI} {esz:Nat} {v:AV} {lo hi:Option Int} {r:XV} {e:EN} (hg:o.guard=none) (h:xslice ti esz nx κ v lo hi=.ok r) (hr:xret n o.dst r=.ok e) (hk:k e.1 e.2) :
  aslice ti esz κ true v lo hi (fun v=>retv n o true nx k v []) (fun v bx rd=>retb n o nx k v bx rd):=by
 have bnd:∀{m:Nat},xbnd lo hi m=true→0≤lo.getD 0∧lo.getD 0≤hi.getD m∧hi.getD m≤m:=by
  intro m hb
  simp only [xbnd,Bool.and_eq_true,ile_eq,decide_eq_true_eq] at hb
  exact ⟨(inn_eq _).1 hb.1.1,hb.1.2,hb.2⟩
 unfold xslice at h
 split at h
 ·rename_i d
  unfold xsliceD at h
  split at h
  ·obtain ⟨hb,h⟩:=xif_ok h
   simp only [Bool.and_eq_true] at hb
   simp only [aslice,hb.1.1,hb.1.2,Bool.and_self,cond_true]
   exact ⟨fun _=>bnd hb.2,retval_of hg h hr hk⟩
  ·obtain ⟨hb,h⟩:=xif_ok h
   simp only [Bool.and_eq_true] at hb
   simp only [aslice,hb.1,cond_true]
   exact ⟨fun _=>bnd hb.2,retval_of hg h hr hk⟩
  ·cases h
 ·rename_i i ver ep p
  obtain ⟨he,h⟩:=xif_ok h
  cases p with
  | cons=>simp [emp] at he
  | nil =>
   obtain ⟨t,h1,h⟩:=bind_ok h
   obtain ⟨q,h2,h⟩:=bind_ok h
   obtain ⟨hb,h⟩:=xif_ok h
   obtain ⟨k1,k2,k3⟩:=node_of h1
   have h2:=osl?_some (xopt_ok h2)
   simp only [xgetN] at k3
   injection k3 with k3
   rw [←k3] at h2
   simp only [Bool.and_eq_true] at hb
   have hvv:Nat.beq ver ver=true:=Nat.beq_refl _
   simp only [aslice,k1,hvv,cond_true,h2,hb.1.1,hb.1.2,Bool.and_self]
   injection h with h; subst h
   exact ⟨bnd hb.2,retb_of hg hr hk⟩
 ·cases h
theorem overC_of {x y:DV} {off:Nat} {ds:List DV} {q:DV→Prop} (h:xoverC x off ds=.ok y) (hq:q y):overC x off ds q:=by
 unfold xoverC at h
 unfold overC
 split at h
 ·obtain ⟨hb,h⟩:=xif_ok h
  injection h with h; subst h
  simp only [hb,cond_true]; exact hq
 ·rename_i hx
  split at h
  ·injection h with h; subst h
   cases x with
   | agg l=>exact (hx l rfl).elim
   | _=>exact hq
  ·cases h
theorem isAggA_eq (u:AV):isAggA u=(match u with | .agg _=>true | _=>false):=by cases u <;> rfl
theorem overN_of {sz idx off:Nat} {nd:DV} {ds:List DV} {r:List DV × DV} {q:List DV→DV→Prop} (h:xoverN sz idx off nd ds=.ok r) (hq:q r.1 r.2):overN sz idx off nd ds q:=by
 unfold xoverN at h
 unfold overN
 split at h
 ·obtain ⟨hb,h⟩:=xif_ok h
  obtain ⟨x,h1,h⟩:=bind_ok h
  obtain ⟨y,h2,h⟩:=bind_ok h
  injection h with h; subst h
  have h1:=xopt_ok h1
  rw [lget_eq] at h1
  simp only [hb,cond_true]
  exact ⟨x,h1,overC_of h2 hq⟩
 ·obtain ⟨hb,h⟩:=xif_ok h
  obtain ⟨y,h2,h⟩:=bind_ok h
  injection h with h; subst h
  simp only [hb,cond_true]
  exact overC_of h2 hq
 ·cases h
theorem storeT_of {i ver ep:Nat} {p:List PS} {sz idx off:Nat} {vs:List AV} {r:XV} {e:EN} (hg:o.guard=none) (h:xstoreT nx κ i ver ep p sz idx off vs=.ok r) (hr:xret n o.dst r=.ok e) (hk:k e.1 e.2) :
  astoreT n o nx κ k i ver ep p sz idx off vs:=by
 unfold xstoreT at h
 obtain ⟨t,h1,h⟩:=bind_ok h
 obtain ⟨q,h2,h⟩:=bind_ok h
 obtain ⟨hb,h⟩:=xif_ok h
 obtain ⟨on,h3,h⟩:=bind_ok h
 obtain ⟨d',h4,h⟩:=bind_ok h
 injection h with h; subst h
 obtain ⟨k1,k2,k3⟩:=node_of h1
 have h2:=xopt_ok h2
 obtain ⟨ds,ids⟩:=q
 simp only [Bool.not_eq_true'] at hb
 simp only [astoreT,k1,k2,cond_true,h2,hb,cond_false]
 exact ⟨ds,TLes.refl _,getN_of k3 (overN_of h3 (setN_of h4 (retb_of hg hr hk)))⟩
theorem nodeCells_of {i ver ep:Nat} {p:List PS} {sz idx:Nat} {nd:DV} {l:List AV} {q:List AV→Prop} (h:xnodeCells i ver ep p sz idx nd=.ok l) (hq:q l):nodeCells i ver ep p true sz idx nd q:=by
 unfold xnodeCells at h
 unfold nodeCells
 split at h
 ·obtain ⟨hb,h⟩:=xif_ok h
  obtain ⟨x,h1,h⟩:=bind_ok h
  injection h with h; subst h
  have h1:=xopt_ok h1
  rw [lget_eq] at h1
  simp only [hb,cond_true]
  exact ⟨x,fun _=>h1,hq⟩
 ·obtain ⟨hb,h⟩:=xif_ok h
  injection h with h; subst h
  simp only [hb,cond_true]; exact hq
 ·cases h
theorem found_of {te:TI} {i ver ep:Nat} {p:List PS} {key x:DV} {c b:Bool} {r:XV} {e:EN} (hg:o.guard=none) (h:xfound te i ver ep p key c b x nx=.ok r) (hr:xret n o.dst r=.ok e) (hk:k e.1 e.2) :
  x.isAgg=te.agg∧retv n o true nx k (bif c then .tup [alookup.packA te.agg (liftK i ver ep p key 0 x.cells),.dv (.bool b)] else alookup.packA te.agg (liftK i ver ep p key 0 x.cells)) [i]:=by
 unfold xfound at h
 obtain ⟨hb,h⟩:=xif_ok h
 injection h with h; subst h
 exact ⟨by simpa using hb,retv_of (nx:=nx) hg hr hk rfl rfl⟩
theorem lookup_of (hT:TOk P T) {t:Nat} {v kv:AV} {c:Bool} {r:XV} {e:EN} (hg:o.guard=none) (h:xlookup (nth T (nth T t).key) (nth T (nth T t).elem) nx κ v kv c=.ok r) (hr:xret n o.dst r=.ok e) (hk:k e.1 e.2) :
  alookup P (nth T t) (nth T (nth T t).elem) κ true v kv c fun r rd=>retv n o true nx k r rd:=by
 unfold xlookup at h
 split at h
 ·rename_i i ver ep p
  obtain ⟨t',h1,h⟩:=bind_ok h
  obtain ⟨q,h2,h⟩:=bind_ok h
  obtain ⟨key,h3,h⟩:=bind_ok h
  obtain ⟨hb,h⟩:=xif_ok h
  obtain ⟨k1,k2,k3⟩:=node_of h1
  have h2:=omap?_some (xopt_ok h2)
  have h3:=keyD_eq (xopt_ok h3)
  simp only [Bool.and_eq_true] at hb
  simp only [alookup,k1,k2,cond_true]
  refine getN_of k3 ?_
  rw [h2]
  refine ⟨keyT_of hT hb.1,key,h3,hb.2,?_⟩
  split at h
  ·rename_i x hx
   obtain ⟨f1,f2⟩:=found_of hg h hr hk
   refine ⟨x,true,fun _=>hx,fun h=>(by cases h),f1,?_⟩
   rw [(forceA_eq (SizeOf.sizeOf _+1)).1 _ _ (Nat.lt_succ_self _)]; exact f2
  ·rename_i hx
   obtain ⟨f1,f2⟩:=found_of hg h hr hk
   refine ⟨_,false,fun _=>hx,fun _=>rfl,f1,?_⟩
   rw [(forceA_eq (SizeOf.sizeOf _+1)).1 _ _ (Nat.lt_succ_self _)]; exact f2
 ·cases h
theorem mapUpd_of (hT:TOk P T) {t:Nat} {v kv u:AV} {r:XV} {e:EN} (hg:o.guard=none) (h:xmapUpd (nth T (nth T t).key) nx κ v kv u=.ok r) (hr:xret n o.dst r=.ok e) (hk:k e.1 e.2) :
  amapUpd P (nth T t) n o nx κ k v kv u:=by
 unfold xmapUpd at h
 split at h
 ·rename_i i ver ep p
  obtain ⟨t',h1,h⟩:=bind_ok h
  obtain ⟨q,h2,h⟩:=bind_ok h
  obtain ⟨key,h3,h⟩:=bind_ok h
  obtain ⟨hb,h⟩:=xif_ok h
  obtain ⟨w,h4,h⟩:=bind_ok h
  obtain ⟨hb2,h⟩:=xif_ok h
  obtain ⟨hb3,h⟩:=xif_ok h
  obtain ⟨d',h5,h⟩:=bind_ok h
  injection h with h; subst h
  obtain ⟨k1,k2,k3⟩:=node_of h1
  have h2:=omap?_some (xopt_ok h2)
  have h3:=keyD_eq (xopt_ok h3)
  have h4:=xopt_ok h4
  obtain ⟨ds,ids⟩:=w
  simp only [Bool.and_eq_true,beq_iff_eq] at hb hb3
  simp only [Bool.not_eq_true'] at hb2
  simp only [amapUpd,k1,k2,cond_true]
  refine getN_of k3 ?_
  rw [h2]
  refine ⟨keyT_of hT hb.1,key,h3,hb.2,?_⟩
  simp only [h4,hb2,cond_false]
  have hcells:=packD_cells' hb3.2 hb3.1
  refine ⟨packD (isAggA u) ds,by rw [hcells]; exact TLes.refl _,(hb3.1).trans (isAggA_eq u),!(closedB (packD (isAggA u) ds) && wasClosed q.2 key),fun hf=>?_,setN_of h5 ?_⟩
  ·simp only [Bool.not_eq_false',Bool.and_eq_true] at hf
   refine ⟨fun x hx=>?_,closedB_spec hf.1⟩
   have:=hf.2
   simp only [wasClosed,hx] at this
   exact closedB_spec this
  ·have:=retb_of hg hr hk
   cases hc:closedB (packD (isAggA u) ds) && wasClosed q.2 key with
   | true=>rw [hc] at this; simpa using this
   | false=>rw [hc] at this; simpa using this
 ·cases h
theorem cutD_length (agg:Bool) (sz:Nat):∀(m:Nat) (l:List DV),(cutD agg sz m l).length=m
 | 0,_=>rfl
 | m+1,l=>by simp [cutD,cutD_length agg sz m]
theorem cutD_cells {agg:Bool} {sz:Nat} (hs:(agg || Nat.beq sz 1)=true):∀(m:Nat) (l:List DV),(∀d,d∈l→d.isCell=true)→l.length=m * sz→(cutD agg sz m l).flatMap DV.cells=l∧∀x,x∈cutD agg sz m l→x.cells.length=sz
 | 0,l,_,h=>by
  have:l=[]:=List.eq_nil_of_length_eq_zero (by simpa using h)
  subst this; exact ⟨rfl,by simp [cutD]⟩
 | m+1,l,hc,h=>by
  have hl:sz≤l.length:=by rw [h,Nat.add_mul]; omega
  have h1:(packD agg (l.take sz)).cells=l.take sz:=by
   cases agg with
   | true=>rfl
   | false =>
    simp only [Bool.false_or] at hs
    have:=Nat.eq_of_beq_eq_true hs
    subst this
    match l,hl with
    | d::r,_ =>
     have:=hc d (by simp)
     simp only [List.take_succ_cons,List.take_zero,packD]
     cases d <;> first | rfl | simp [DV.isCell] at this
  obtain ⟨i1,i2⟩:=cutD_cells hs m (l.drop sz) (fun d hd=>hc d (List.mem_of_mem_drop hd)) (by rw [List.length_drop,h,Nat.add_mul]; omega)
  refine ⟨?_,fun x hx=>?_⟩
  ·simp only [cutD,List.flatMap_cons,h1,i1,List.take_append_drop]
  ·simp only [cutD,List.mem_cons] at hx
   rcases hx with rfl | hx
   ·rw [h1,List.length_take]; omega
   ·exact i2 x hx
end
end Go.TM
namespace Go.TM
open Go.RowKit
variable [Glob]
theorem posB_spec:∀{σ:List Nat} {i j:Nat},posB σ i=some j→∃h:j<σ.length,σ[j]=i
 | [],i,j,h=>by simp [posB] at h
 | x::l,i,j,h=>by
  simp only [posB] at h
  cases hb:Nat.beq x i with
  | true =>
   rw [hb] at h
   simp only [cond_true,Option.some.injEq] at h
   subst h
   exact ⟨by simp,Nat.eq_of_beq_eq_true hb⟩
  | false =>
   rw [hb] at h
   simp only [cond_false] at h
   split at h
   ·rename_i q hq
    injection h with h; subst h
    obtain ⟨h1,h2⟩:=posB_spec hq
    exact ⟨by simp; omega,by simpa using h2⟩
   ·cases h
theorem posB_sg {σ:List Nat} {nx i j:Nat} (h:posB σ i=some j):sg σ nx j=i:=by
 obtain ⟨h1,h2⟩:=posB_spec h
 rw [sg_lt h1]; exact h2
theorem vis?_spec {b:Box} {v e:Nat} {p:List PS} (h:b.vis? v e p=true):∃E d,b=.tree v E d∧(Nat.beq v v && (emp p || Nat.beq e E))=true:=by
 cases b with
 | tree v' e' d =>
  simp only [Box.vis?] at h
  have:v=v':=by simp only [Bool.and_eq_true] at h; exact Nat.eq_of_beq_eq_true h.1
  subst this
  exact ⟨e',d,rfl,h⟩
 | _=>simp [Box.vis?] at h
theorem fz?_spec {b:Box} {v:Nat} {p:List PS} {d:DV} (h:b.fz? v p=some d):b=.fz v d∧p=[]:=by
 cases b with
 | fz v' d' =>
  simp only [Box.fz?] at h
  cases hb:Nat.beq v v' && emp p with
  | false=>rw [hb] at h; cases h
  | true =>
   rw [hb] at h
   simp only [cond_true,Option.some.injEq] at h
   subst h
   simp only [Bool.and_eq_true] at hb
   have:=Nat.eq_of_beq_eq_true hb.1
   subst this
   cases p with
   | nil=>exact ⟨rfl,rfl⟩
   | cons=>simp [emp] at hb
 | _=>simp [Box.fz?] at h
theorem shv00:shv (0,0) 0 0=(0,0):=rfl
section
variable {κ κ':Nat→Box} {σ:List Nat} {nx:Nat}
theorem subW_xn:∀N:Nat,(∀v:AV,SizeOf.sizeOf v<N→subW 0 κ κ' (ren (sg σ nx) zsh (xn κ σ v)) v)∧(∀l:List AV,SizeOf.sizeOf l<N→subWs 0 κ κ' (rens (sg σ nx) zsh (xns κ σ l)) l):=by
 intro N
 induction N with
 | zero=>exact ⟨fun _ h=>by omega,fun _ h=>by omega⟩
 | succ N ih =>
  have nf:∀i V E,nfv 0 i V E=(0,0):=fun i V E=>nfv_out (by omega)
  refine ⟨fun v hsz=>?_,fun l hsz=>?_⟩
  ·cases v with
   | any=>exact trivial
   | dv d=>exact DV.Le.refl d
   | ptr i off =>
    simp only [xn]
    cases h:posB σ i with
    | none=>exact trivial
    | some j=>simp only [xnPtr,ren,subW,posB_sg h]
   | yld i =>
    simp only [xn]
    cases h:posB σ i with
    | none=>exact trivial
    | some j=>simp only [xnYld,ren,subW,posB_sg h]
   | sle i m =>
    simp only [xn]
    cases h:posB σ i with
    | none=>exact trivial
    | some j=>simp only [xnSle,ren,subW,posB_sg h]
   | own i ver ep p =>
    simp only [xn,xnOwn]
    cases hf:(κ i).fz? ver p with
    | some d =>
     obtain ⟨h1,rfl⟩:=fz?_spec hf
     simp only [ren,subW,toD,dn,toD0,h1,Nat.beq_refl,cond_true]
     exact DV.Le.refl d
    | none =>
     simp only
     cases h:posB σ i with
     | none=>exact trivial
     | some j =>
      simp only
      cases hv:(κ i).vis? ver ep p with
      | false=>exact trivial
      | true =>
       obtain ⟨E,d,h1,h2⟩:=vis?_spec hv
       simp only [cond_true,ren,zsh,shv00,posB_sg h,subW,subOwn,dn,nrm,h1,h2,nf]
   | ownf i ver =>
    simp only [xn,xnOwnf]
    cases hf:(κ i).fz? ver [] with
    | some d =>
     obtain ⟨h1,_⟩:=fz?_spec hf
     simp only [ren,subW,toD,dn,toD0,h1,Nat.beq_refl,cond_true]
     exact DV.Le.refl d
    | none =>
     simp only
     cases h:posB σ i with
     | none=>exact trivial
     | some j =>
      simp only
      cases hv:(κ i).vis? ver 0 [] with
      | false=>exact trivial
      | true =>
       obtain ⟨E,d,h1,h2⟩:=vis?_spec hv
       simp only [cond_true,ren,zsh,shv00,posB_sg h,subW,nrm,h1,Nat.beq_refl,nf]
   | loc i ver ep p a b c =>
    simp only [xn,xnLoc]
    cases h:posB σ i with
    | none=>exact trivial
    | some j =>
     simp only
     cases hv:(κ i).vis? ver ep p with
     | false=>exact trivial
     | true =>
      obtain ⟨E,d,h1,h2⟩:=vis?_spec hv
      simp only [cond_true,ren,zsh,shv00,posB_sg h,subW,nrm,h1,h2,nf]
   | fn f l=>exact ⟨rfl,ih.2 l (by simp at hsz; omega)⟩
   | bfn f l=>exact ⟨rfl,ih.2 l (by simp at hsz; omega)⟩
   | agg l=>exact ih.2 l (by simp at hsz; omega)
   | tup l=>exact ih.2 l (by simp at hsz; omega)
   | opt g v=>exact trivial
  ·cases l with
   | nil=>exact trivial
   | cons v l=>exact ⟨ih.1 v (by simp at hsz; omega),ih.2 l (by simp at hsz; omega)⟩
theorem subWs_xns (l:List AV):subWs 0 κ κ' (rens (sg σ nx) zsh (xns κ σ l)) l:=(subW_xn (SizeOf.sizeOf l+1)).2 l (by omega)
theorem subX_xn {i j:Nat}:subX 0 κ κ' i (κ i) (renB (sg σ nx) zsh j (xnB κ σ (κ i))):=by
 have nf:∀i V E,nfv 0 i V E=(0,0):=fun i V E=>nfv_out (by omega)
 cases h:κ i with
 | none=>exact trivial
 | dead=>exact trivial
 | cells l=>exact subWs_xns l
 | tree v e d=>simp only [xnB,renB,zsh,shv00,subX,nf]; exact ⟨tv,tv⟩
 | fz v d=>simp only [xnB,renB,zsh,shv00,subX,nf]; exact ⟨tv,DV.Le.refl d⟩
 | rcd rc st l=>exact ⟨rfl,rfl,subWs_xns l⟩
 | held=>exact trivial
 | itr _ _ _ _ _=>exact trivial
theorem subB_xnK:∀(τ pre:List Nat),σ=pre++τ→subB 0 κ κ' (renK (sg σ nx) zsh (xnK κ σ pre.length τ))
 | [],_,_=>trivial
 | i::r,pre,h=>by
  simp only [xnK,renK,subB]
  have hi:sg σ nx pre.length=i:=by
   rw [sg_lt (by rw [h]; simp)]
   simp [h]
  refine ⟨by rw [hi]; exact subX_xn,?_⟩
  have:=subB_xnK r (pre++[i]) (by rw [h]; simp)
  simpa using this
end
section
variable {P:Program} {C:Org→Prop} {T:List TI} {ops:List Oper} {n:Nat} {o:Oper} {nx:Nat} {ρ:Nat→AV} {κ:Nat→Box} {k:Eff→Nat→Prop}
def SOk (S:List AV→Nat→Boxes→Nat→(List AV→Boxes→Prop)→Prop) (X:Callee):Prop:=∀args m K r,X args m K=.ok r→S args m K r.2.2 (fun rs k=>rs=r.1∧k=r.2.1)
theorem call_of {S:List AV→Nat→Boxes→Nat→(List AV→Boxes→Prop)→Prop} {X:Callee} (hX:SOk S X) {fuel:Nat} {hd:Option Nat} {l:List AV} {r:XV} {e:EN} {gd:Bool} (hg:o.guard=none) (h:xcall fuel hd X nx κ l=.ok r) (hr:xret n o.dst r=.ok e) (hk:k e.1 e.2) :
  acallR hd S n o gd nx κ k l:=by
 unfold xcall xcallB xcallC at h
 generalize clos κ fuel (hdL hd++AV.idss l) []=σ at h
 obtain ⟨hc,h⟩:=xif_ok h
 obtain ⟨q,hq,h⟩:=bind_ok h
 unfold xcallD at h
 obtain ⟨ho,h⟩:=xif_ok h
 injection h with h; subst h
 simp only [Bool.and_eq_true] at hc
 refine ⟨σ,xns κ σ l,xnK κ σ 0 σ,q.2.2,q.1,q.2.1,hX _ _ _ q hq,by simp only [Bool.and_eq_true]; exact hc.1,ho,subWs_xns l,subB_xnK σ [] rfl,?_⟩
 rw [(forceA_eq (SizeOf.sizeOf (ren (sg σ nx) (shs κ σ) (resC q.1))+1)).1 _ _ (by omega),normV_eq,forceK_eq,normK_eq]
 unfold retg
 rw [hg]
 exact retb_of hg hr hk
theorem op_cmpNil (hT:TOk P T) {op:BinOp} {t ty:TypeId} {x y:Operand} {av:AV} {b:Bool} {rd:List Nat} {r:XV} {e:EN} (hg:o.guard=none) (ho:o.op=.binOp op t x y ty) (hsl:(nth T t).isSl=true) (hok:(nth T t).ok=true)
  (h:xcmpNil op nx (b,rd)=.ok r) (hr:xret n o.dst r=.ok e) (hk:k e.1 e.2) (hev:EvOk ρ κ true x av) (hey:EvOk ρ κ true y (.dv .nils))
  (hval:∀κ',(∀i,i∈rd→κ' i=κ i)→∀(G:Gh) (w:World) (v:Value),Fit G w κ'→VRel G av v→∃p l c,v=.slice p l c∧p.isNone=b):Good P C ops n o nx ρ κ k:=by
 obtain ⟨i,u,z,tf⟩:=hT.facts hok
 have hu:=tf.slice hsl
 have hgv:gval ρ ops o.guard=some true:=by rw [hg]; rfl
 have core:∀(c:Bool),r=⟨.dv (.bool c),[],rd,nx⟩→(∀(w:World) (p:Option Addr) (l cc:Nat),p.isNone=b→(binOp op t (.slice p l cc) (.slice none 0 0)).run P w=.ok (.bool c) w)→Good P C ops n o nx ρ κ k:=by
  intro c hrc hrun
  subst hrc
  refine snd_val (fun c=>by rw [ho]; simp) hgv (retv_of (nx:=nx) hg hr hk rfl rfl) fun ρ' κ' hag g a w G hst hgd=>?_
  have h1:=hev ρ' κ' (hag.op (by rw [ho]; simp [Op.operands])) g n a w G hst hgd
  have h2:=hey ρ' κ' (hag.op (by rw [ho]; simp [Op.operands])) g n a w G hst hgd
  obtain ⟨p,l,cc,hv,hp⟩:=hval κ' hag.reads G w _ hst.fit h1
  generalize hy:a.eval y=vy at h2
  cases h2 with | dv h2=>cases h2 with | nils =>
  refine ⟨.bool c,?_,.dv (.bool c)⟩
  simp only [execOp,ho,Sem.run_bind]
  rw [run_eqGuard_plain op t x y _ _ (by rw [hv]; simp) (by rw [hv]; simp),hv,hy]
  simp only [Result.andThen_ok,hrun w p l cc hp,Sem.run_pure]
 cases op with
 | eql =>
  simp only [xcmpNil] at h
  injection h with h
  refine core b h.symm fun w p l cc hp=>?_
  simp only [binOp,Sem.run_bind,equal_slice_nil hu,Result.andThen_ok,Sem.run_pure,hp]
 | neq =>
  simp only [xcmpNil] at h
  injection h with h
  refine core (!b) h.symm fun w p l cc hp=>?_
  simp only [binOp,Sem.run_bind,equal_slice_nil hu,Result.andThen_ok,Sem.run_pure,hp]
 | _=>simp [xcmpNil] at h
theorem nil_val {v:AV} {ti:TI} {r:Bool × List Nat} (h:xnil ti κ v=.ok r):(ti.ok && ti.isSl)=true∧∀κ',(∀i,i∈r.2→κ' i=κ i)→∀(G:Gh) (w:World) (x:Value),Fit G w κ'→VRel G v x→∃p l c,x=.slice p l c∧p.isNone=r.1:=by
 unfold xnil at h
 have hh:=xif_ok h
 clear h
 obtain ⟨hb,h⟩:=hh
 refine ⟨hb,?_⟩
 split at h
 ·rename_i d
  obtain ⟨b,h1,h⟩:=bind_ok h
  injection h with h; subst h
  intro κ' _ G w x _ hv
  cases hv with | dv hv =>
  unfold xnilD at h1
  split at h1
  ·injection h1 with h1; subst h1
   cases hv with | nils=>exact ⟨none,0,0,rfl,rfl⟩
  ·rename_i sz l
   obtain ⟨hne,h1⟩:=xif_ok h1
   injection h1 with h1; subst h1
   cases hv with
   | slnil=>simp [ne] at hne
   | sl _ _ a cap=>exact ⟨_,_,_,rfl,rfl⟩
  ·cases h1
 ·rename_i i ver ep p
  obtain ⟨t,h1,h⟩:=bind_ok h
  obtain ⟨q,h2,h⟩:=bind_ok h
  obtain ⟨hne,h⟩:=xif_ok h
  injection h with h; subst h
  obtain ⟨k1,k2,k3⟩:=node_of h1
  have h2:=osl?_some (xopt_ok h2)
  intro κ' hag G w x hf hv
  have hk':=(hag i (by simp)).trans k1
  obtain ⟨_,hcur⟩:=vis_cur k2
  have hgn:get t.d p=some t.n:=by
   have:=getN_sound (gd:=true) (getN_of (q:=fun n=>n=t.n) k3 rfl)
   obtain ⟨n,hn,hg⟩:=this
   rw [←hn]; exact hg rfl
  obtain ⟨u,e1,e2,e3⟩:=hf.node hk' hgn (by rw [h2]; rfl)
  cases hv with | own _ _ _ _ _ hh hc =>
  rw [hdr_cur hcur] at hh
  rw [hh] at e1; injection e1 with e1; subst e1
  rw [h2] at e3
  rcases e3 with ⟨hnil,_⟩ | ⟨gb,o,cap,c,tt,hx,_⟩
  ·rw [hnil] at hne; simp [ne] at hne
  ·exact ⟨_,_,_,hx,rfl⟩
 ·injection h with h; subst h
  intro κ' _ G w x _ hv
  cases hv with | ownf _ _ a m hh=>exact ⟨_,_,_,rfl,rfl⟩
 ·injection h with h; subst h
  intro κ' _ G w x _ hv
  cases hv with | sle _ _ b hh=>exact ⟨_,_,_,rfl,rfl⟩
 ·cases h
end
end Go.TM
