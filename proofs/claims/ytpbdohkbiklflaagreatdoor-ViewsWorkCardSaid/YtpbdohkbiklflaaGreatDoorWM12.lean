import Derived.Test.YtpbdohkbiklflaaGreatDoorWM11
set_option linter.unusedVariables false
set_option linter.unusedSimpArgs false
set_option linter.unusedSectionVars false
namespace Go.TM
open Go.RowKit
variable [ct]
theorem cz:∀{l r:List Nat},iQ l r=true→∀x,x∈l→x ∉ r
 | [],r,_,x,h=>by simp at h
 | y::l,r,h,x,hx=>by
  simp only [iQ,Bool.and_eq_true,Bool.not_eq_true'] at h
  rcases List.mem_cons.1 hx with rfl | hx
  ·exact eo h.1
  ·exact cz h.2 x hx
theorem kA (l:List (Nat × AV)):hP l=keys l:=by
 induction l with
 | nil=>rfl
 | cons p r ih=>simp [hP,keys,ih]
theorem cV (l:List (Nat × ao)):dO l=keys l:=by
 induction l with
 | nil=>rfl
 | cons p r ih=>simp [dO,keys,ih]
def pZ (E:Nat→Bool):Nat→Nat
 | 0=>0
 | m+1=>(if E m then 0 else 1)+pZ E m
theorem ry (E:Nat→Bool) (j:Nat):ku E j j=true:=by simp [ku]
theorem gK (E:Nat→Bool) {i j:Nat} (h:i ≠ j):ku E j i=E i:=by simp [ku,h]
theorem uJ {E:Nat→Bool} {j:Nat} (hj:E j=false):∀{m:Nat},j<m→pZ (ku E j) m+1=pZ E m
 | 0,h=>by omega
 | m+1,h=>by
  rcases Nat.lt_or_ge j m with aJ | du
  ·have ih:=uJ hj aJ
   have e:=gK E (i:=m) (j:=j) (by omega)
   simp only [pZ,e]
   omega
  ·have:j=m:=by omega
   subst this
   have low:∀q,q≤j→pZ (ku E j) q=pZ E q:=by
    intro q
    induction q with
    | zero=>intro _; rfl
    | succ q ih =>
     intro hq
     have e:=gK E (i:=q) (j:=j) (by omega)
     simp only [pZ,e,ih (by omega)]
   have:=low j (Nat.le_refl _)
   simp only [pZ,ry,hj,if_true,Bool.false_eq_true,if_false]
   omega
theorem rz {E:Nat→Bool}:∀{m:Nat},pZ E m=0→∀i,i<m→E i=true
 | 0,_,i,hi=>by omega
 | m+1,h,i,hi=>by
  simp only [pZ] at h
  rcases Nat.lt_or_ge i m with aJ | du
  ·exact rz (by omega) i aJ
  ·have:i=m:=by omega
   subst this
   cases he:E i with
   | true=>rfl
   | false=>simp [he] at h
section
variable {ops:List Oper}
theorem jq:∀{l:List Oper} {s:Nat},uF s l=true→∀{i:Nat} {o:Oper},l[i]?=some o→∀d,d∈pS o→d<s+i
 | [],s,_,i,o,h,_,_=>by simp at h
 | x::l,s,he,i,o,h,d,hd=>by
  simp only [uF,Bool.and_eq_true,List.all_eq_true] at he
  cases i with
  | zero=>simp at h; subst h; have:=he.1 d hd; rw [Nat.blt_eq] at this; omega
  | succ i=>have:=jq he.2 (i:=i) (by simpa using h) d hd; omega
theorem ln {rs:List Rec} {j:Nat} {y:Rec} {oy:Oper}:∀{xr:List Rec} {xo:List Oper} {s:Nat},pT ops rs j y oy s xr xo=true→∀{i:Nat} {x:Rec} {ox:Oper},xr[i]?=some x→xo[i]?=some ox→s+i<j →
  mK ops ops.length (s+i) j=true ∨ (c8 ops x y oy=true∧c8 ops y x ox=true)
 | [],xo,s,_,i,x,ox,h,_,_=>by simp at h
 | _::_,[],s,_,i,x,ox,_,h,_=>by simp at h
 | a::xr,b::xo,s,hh,i,x,ox,h1,h2,aJ=>by
  simp only [pT,Bool.and_eq_true] at hh
  cases i with
  | zero =>
   simp at h1 h2
   subst h1; subst h2
   have:=hh.1
   rw [show Nat.blt s j=true by rw [Nat.blt_eq]; omega] at this
   simpa using this
  | succ i =>
   have:=ln hh.2 (i:=i) (by simpa using h1) (by simpa using h2) (by omega)
   rw [show s+(i+1)=s+1+i by omega]; exact this
theorem jr {rs:List Rec}:∀{yr:List Rec} {yo:List Oper} {s:Nat},nQ ops rs s yr yo=true→∀{j:Nat} {y:Rec} {oy:Oper},yr[j]?=some y→yo[j]?=some oy →
  pT ops rs (s+j) y oy 0 rs ops=true
 | [],yo,s,_,j,y,oy,h,_=>by simp at h
 | _::_,[],s,_,j,y,oy,_,h=>by simp at h
 | a::yr,b::yo,s,hh,j,y,oy,h1,h2=>by
  simp only [nQ,Bool.and_eq_true] at hh
  cases j with
  | zero=>simp at h1 h2; subst h1; subst h2; exact hh.1
  | succ j =>
   have:=jr hh.2 (j:=j) (by simpa using h1) (by simpa using h2)
   rw [show s+(j+1)=s+1+j by omega]; exact this
theorem Bd {o:Oper} {d:Nat}:d∈pS o ↔ ∃e,e∈o.after.toList∧Region.binds .any e=true∧e.on=d:=by
 unfold pS
 rw [List.mem_filterMap]
 constructor
 ·rintro ⟨e,he,h⟩
  cases hb:Region.binds .any e with
  | false=>rw [hb] at h; cases h
  | true=>rw [hb] at h; simp at h; exact ⟨e,he,hb,h⟩
 ·rintro ⟨e,he,hb,rfl⟩
  exact ⟨e,he,by rw [hb]; rfl⟩
theorem js {E:Nat→Bool} (jX:∀i o,ops[i]?=some o→E i=true→∀d,d∈pS o→E d=true):∀{f i j:Nat} {o:Oper},ops[j]?=some o→mK ops f i j=true→(∀d,d∈pS o→E d=true)→(∀d,d∈pS o→d<ops.length)→(∀(q:Nat) (o:Oper),ops[q]?=some o→∀d,d∈pS o→d<ops.length)→E i=true
 | 0,i,j,o,_,h,_,_,_=>by simp [mK] at h
 | f+1,i,j,o,ho,h,hd,hl,db=>by
  simp only [mK,ho,List.any_eq_true,Bool.or_eq_true] at h
  obtain ⟨d,TU,h⟩:=h
  rcases h with h | h
  ·have:=Nat.eq_of_beq_eq_true h; subst this; exact hd d TU
  ·have aJ:=hl d TU
   have TV:ops[d]?=some (ops[d]'aJ):=List.getElem?_eq_getElem aJ
   exact js jX TV h (jX d _ TV (hd d TU)) (db d _ TV) db
theorem mem_ready {listed:Array Bool} {i:Nat} (aT:listed.size=ops.length):i∈Region.ready .any ops.toArray listed ↔ ∃o,ops[i]?=some o∧listed.getD i false=false∧∀d,d∈pS o→listed.getD d false=true:=by
 unfold Region.ready
 rw [List.mem_filter,List.mem_range]
 constructor
 ·rintro ⟨aJ,h⟩
  have fX:i<ops.length:=by simpa using aJ
  have ho:ops[i]?=some (ops[i]'fX):=List.getElem?_eq_getElem fX
  refine ⟨_,ho,?_,?_⟩
  ·simp only [Bool.and_eq_true,Bool.not_eq_true'] at h
   have h1:=h.1
   simp only [Array.getD_eq_getD_getElem?] at h1 ⊢
   rw [Array.getElem?_eq_getElem (by omega)] at h1 ⊢
   simpa using h1
  ·intro d hd
   simp only [Bool.and_eq_true] at h
   have h2:=h.2
   rw [show ops.toArray[i]?=some (ops[i]'fX) by simp] at h2
   simp only [Option.map_some,Option.getD_some,Array.all_eq_true'] at h2
   obtain ⟨e,he,hb,rfl⟩:=Bd.1 hd
   have:=h2 e (by simpa using he)
   simpa [hb] using this
 ·rintro ⟨o,ho,h1,h2⟩
  have aJ:i<ops.length:=(List.getElem?_eq_some_iff.1 ho).1
  refine ⟨by simpa using aJ,?_⟩
  simp only [Bool.and_eq_true,Bool.not_eq_true']
  constructor
  ·simp only [Array.getD_eq_getD_getElem?] at h1 ⊢
   rw [Array.getElem?_eq_getElem (by omega)] at h1 ⊢
   simpa using h1
  ·rw [show ops.toArray[i]?=some o by simpa using ho]
   simp only [Option.map_some,Option.getD_some,Array.all_eq_true']
   intro e he
   cases hb:Region.binds .any e with
   | false=>rfl
   | true =>
    have:=h2 e.on (Bd.2 ⟨e,by simpa using he,hb,rfl⟩)
    simpa using this
end
def mL (ops:List Oper) (x y:Rec) (oy:Oper):Bool:=iQ (hP x.bc.dst) (oy.looksAt ops.toArray) && iQ (hP x.bc.dst) (hP y.bc.dst)
def xK (y:Rec):Bool:=match y.bc.box with
 | []=>true
 | _=>false
def w6 (j i:Nat):List (Nat × Nat)→Bool
 | []=>false
 | p::r=>(Nat.beq p.1 j && Nat.beq p.2 i) || w6 j i r
def mM (ops:List Oper) (rs:List Rec) (sf:List (Nat × Nat)) (j:Nat) (y:Rec) (oy:Oper):Nat→List Rec→List Oper→Bool
 | i,x::xr,ox::or=>(bif Nat.blt i j then mK ops ops.length i j || (c8 ops x y oy && c8 ops y x ox) || (w6 j i sf && mL ops x y oy && xK y && c8 ops y x ox) || (w6 i j sf && mL ops y x ox && xK x && c8 ops x y oy) else true) && mM ops rs sf j y oy (i+1) xr or
 | _,_,_=>true
def lp (ops:List Oper) (rs:List Rec) (sf:List (Nat × Nat)):Nat→List Rec→List Oper→Bool
 | j,y::yr,oy::or=>mM ops rs sf j y oy 0 rs ops && lp ops rs sf (j+1) yr or
 | _,_,_=>true
def rA:List (Nat × Nat)→List Nat
 | []=>[]
 | p::r=>p.1::rA r
def nT (nx:Nat):List Rec→Bool
 | []=>true
 | r::l=>(dO r.bc.box).all (fun i=>Nat.blt i nx) && nT nx l
def uK (ops:List Oper) (rs:List Rec) (sf:List (Nat × Nat)) (nx:Nat):Bool:=uF 0 ops && lp ops rs sf 0 rs ops && eF (rA sf) && nT nx rs
def TW (j x:Nat):Nat→Bool:=fun i=>bif Nat.beq i x then !Nat.blt i j else Nat.blt i j
def Be (ρ0:Nat→AV) (rs:List Rec) (j:Nat):Nat→AV:=acc ρ0 (fun i=>(rs[i]?.map (·.bc.dst)).getD []) (fun _=>true) j
def w7 (κ0:Nat→ao) (rs:List Rec) (m j x:Nat):Nat→ao:=acc κ0 (fun i=>(rs[i]?.map (·.bc.box)).getD []) (TW j x) m
def OO (P:Program) (T:List TI) (ops:List Oper) (n nx:Nat) (o:Oper) (ρ:Nat→AV) (κ:Nat→ao) (bc:jl):Prop:=ec P T→∀C:dx→Prop,cU P C→(∀i,nx≤i→κ i=.none)→Good P C ops n o nx ρ κ fun e _=>e=bc
def Bf (P:Program) (T:List TI) (ops:List Oper) (n nx:Nat) (ρ0:Nat→AV) (κ0:Nat→ao) (rs:List Rec):List (Nat × Nat)→Prop
 | []=>True
 | (j,x)::r=>(match ops[j]?,rs[j]? with
  | some o,some rc=>rc.rows=fj (Be ρ0 rs j) (w7 κ0 rs ops.length j x) o∧OO P T ops n nx o (Be ρ0 rs j) (w7 κ0 rs ops.length j x) rc.bc
  | _,_=>False)∧Bf P T ops n nx ρ0 κ0 rs r
theorem uL:∀l:List Nat,iQ l []=true
 | []=>rfl
 | _::l=>by simp only [iQ,fR,Bool.not_false,Bool.true_and]; exact uL l
theorem qa {j i:Nat}:∀{sf:List (Nat × Nat)},w6 j i sf=true→(j,i)∈sf
 | [],h=>by simp [w6] at h
 | p::r,h=>by
  simp only [w6,Bool.or_eq_true,Bool.and_eq_true] at h
  rcases h with ⟨h1,h2⟩ | h
  ·have e1:=Nat.eq_of_beq_eq_true h1
   have e2:=Nat.eq_of_beq_eq_true h2
   obtain ⟨a,b⟩:=p
   simp only at e1 e2
   subst e1; subst e2
   exact List.mem_cons_self
  ·exact List.mem_cons_of_mem _ (qa h)
theorem oV {j i:Nat}:∀{sf:List (Nat × Nat)},(j,i)∈sf→j∈rA sf
 | [],h=>by simp at h
 | p::r,h=>by
  simp only [rA]
  rcases List.mem_cons.1 h with rfl | h
  ·exact List.mem_cons_self
  ·exact List.mem_cons_of_mem _ (oV h)
theorem sL {j i i':Nat}:∀{sf:List (Nat × Nat)},eF (rA sf)=true→(j,i)∈sf→(j,i')∈sf→i=i'
 | [],_,h,_=>by simp at h
 | p::r,hn,h,h'=>by
  obtain ⟨GM,WR⟩:=sM (i:=p.1) (r:=rA r) hn
  rcases List.mem_cons.1 h with h1 | h1
  ·rcases List.mem_cons.1 h' with h2 | h2
   ·have:=h1.trans h2.symm
    injection this
   ·subst h1; exact absurd (oV h2) GM
  ·rcases List.mem_cons.1 h' with h2 | h2
   ·subst h2; exact absurd (oV h1) GM
   ·exact sL WR h1 h2
theorem xL {γ:Type _} {f:Nat→γ} {wr:Nat→List (Nat × γ)} {E E':Nat→Bool} {t:Nat}:∀{len:Nat},(∀i,i<len→E i ≠ E' i→t ∉ keys (wr i))→acc f wr E len t=acc f wr E' len t
 | 0,_=>rfl
 | len+1,h=>by
  have ih:=xL (t:=t) (len:=len) (f:=f) (wr:=wr) (E:=E) (E':=E') fun i hi=>h i (by omega)
  simp only [acc]
  by_cases e:E len=E' len
  ·rw [e]
   cases E' len with
   | false=>simpa using ih
   | true =>
    simp only [if_true]
    by_cases hk:t∈keys (wr len)
    ·have key:∀(l:List (Nat × γ)),t∈keys l→∀g g':Nat→γ,aw g l t=aw g' l t:=by
      intro l
      induction l with
      | nil=>intro hk; simp [keys] at hk
      | cons p r WT =>
       intro hk g g'
       obtain ⟨i,x⟩:=p
       simp only [aw]
       by_cases e:t=i
       ·subst e; simp
       ·rw [ae _ _ e,ae _ _ e]
        refine WT ?_ g g'
        simp only [keys,List.map_cons,List.mem_cons] at hk
        rcases hk with rfl | hk
        ·exact absurd rfl e
        ·exact hk
     exact key _ hk _ _
    ·rw [ca _ hk,ca _ hk]; exact ih
  ·have hk:=h len (by omega) e
   have u1:(if E len=true then aw (acc f wr E len) (wr len) else acc f wr E len) t=acc f wr E len t:=by
    split
    ·exact ca _ hk
    ·rfl
   have u2:(if E' len=true then aw (acc f wr E' len) (wr len) else acc f wr E' len) t=acc f wr E' len t:=by
    split
    ·exact ca _ hk
    ·rfl
   rw [u1,u2]; exact ih
theorem kh {ops:List Oper} {rs:List Rec} {sf:List (Nat × Nat)} {j:Nat} {y:Rec} {oy:Oper}:∀{xr:List Rec} {xo:List Oper} {s:Nat},mM ops rs sf j y oy s xr xo=true→∀{i:Nat} {x:Rec} {ox:Oper},xr[i]?=some x→xo[i]?=some ox→s+i<j →
  mK ops ops.length (s+i) j=true ∨ (c8 ops x y oy=true∧c8 ops y x ox=true) ∨ (w6 j (s+i) sf=true∧mL ops x y oy=true∧xK y=true∧c8 ops y x ox=true) ∨ (w6 (s+i) j sf=true∧mL ops y x ox=true∧xK x=true∧c8 ops x y oy=true)
 | [],xo,s,_,i,x,ox,h,_,_=>by simp at h
 | _::_,[],s,_,i,x,ox,_,h,_=>by simp at h
 | a::xr,b::xo,s,hh,i,x,ox,h1,h2,aJ=>by
  simp only [mM,Bool.and_eq_true] at hh
  cases i with
  | zero =>
   simp at h1 h2
   subst h1; subst h2
   have:=hh.1
   rw [show Nat.blt s j=true by rw [Nat.blt_eq]; omega] at this
   simp only [cond_true,Bool.or_eq_true,Bool.and_eq_true] at this
   rcases this with ((h | h) | h) | h
   ·exact .inl h
   ·exact .inr (.inl h)
   ·exact .inr (.inr (.inl ⟨h.1.1.1,h.1.1.2,h.1.2,h.2⟩))
   ·exact .inr (.inr (.inr ⟨h.1.1.1,h.1.1.2,h.1.2,h.2⟩))
  | succ i =>
   have:=kh hh.2 (i:=i) (by simpa using h1) (by simpa using h2) (by omega)
   rw [show s+(i+1)=s+1+i by omega]; exact this
theorem iB {ops:List Oper} {rs:List Rec} {sf:List (Nat × Nat)}:∀{yr:List Rec} {yo:List Oper} {s:Nat},lp ops rs sf s yr yo=true→∀{j:Nat} {y:Rec} {oy:Oper},yr[j]?=some y→yo[j]?=some oy →
  mM ops rs sf (s+j) y oy 0 rs ops=true
 | [],yo,s,_,j,y,oy,h,_=>by simp at h
 | _::_,[],s,_,j,y,oy,_,h=>by simp at h
 | a::yr,b::yo,s,hh,j,y,oy,h1,h2=>by
  simp only [lp,Bool.and_eq_true] at hh
  cases j with
  | zero=>simp at h1 h2; subst h1; subst h2; exact hh.1
  | succ j =>
   have:=iB hh.2 (j:=j) (by simpa using h1) (by simpa using h2)
   rw [show s+(j+1)=s+1+j by omega]; exact this
section
variable {P:Program} {C:dx→Prop} {ops:List Oper} {n:Nat} {g:dx}
theorem xM (zb:C g) {F:Fence} (hF:fQ F) {lo:Nat} (dg:g.m≤lo) {ρ0:Nat→AV} {κ0:Nat→ao} {rs:List Rec} {Q:Exit→Act→World→Prop} (lq:rp ops rs=true) (hlen:rs.length=ops.length)
  (db:∀i r o,rs[i]?=some r→ops[i]?=some o→r.rows=fj (acc ρ0 (fun i=>(rs[i]?.map (·.bc.dst)).getD []) (fun _=>true) i) (acc κ0 (fun i=>(rs[i]?.map (·.bc.box)).getD []) (fun _=>true) i) o∧Ib P C ops n lo o (acc ρ0 (fun i=>(rs[i]?.map (·.bc.dst)).getD []) (fun _=>true) i) (acc κ0 (fun i=>(rs[i]?.map (·.bc.box)).getD []) (fun _=>true) i) r.bc)
  (hQ:∀a w,St g n (acc ρ0 (fun i=>(rs[i]?.map (·.bc.dst)).getD []) (fun _=>true) ops.length) (acc κ0 (fun i=>(rs[i]?.map (·.bc.box)).getD []) (fun _=>true) ops.length) a w→Q .normal a w) :
  ∀(fuel:Nat) (listed:Array Bool) (a:Act) (w:World),listed.size=ops.length→pZ (fun i=>listed.getD i false) ops.length≤fuel →
   (∀i o,ops[i]?=some o→listed.getD i false=true→∀d,d∈pS o→listed.getD d false=true) →
   St g n (acc ρ0 (fun i=>(rs[i]?.map (·.bc.dst)).getD []) (fun i=>listed.getD i false) ops.length) (acc κ0 (fun i=>(rs[i]?.map (·.bc.box)).getD []) (fun i=>listed.getD i false) ops.length) a w →
   wpAnyIn F 0 P .any ops.toArray Q fuel listed a w:=by
 simp only [rp,Bool.and_eq_true] at lq
 obtain ⟨Bg,lq⟩:=lq
 have uM:∀(q:Nat) (o:Oper),ops[q]?=some o→∀d,d∈pS o→d<ops.length:=fun q o ho d hd=>by
  have h1:=jq Bg ho d hd
  have h2:=(List.getElem?_eq_some_iff.1 ho).1
  omega
 have done:∀(listed:Array Bool) (a:Act) (w:World),(∀i,i<ops.length→listed.getD i false=true) →
   St g n (acc ρ0 (fun i=>(rs[i]?.map (·.bc.dst)).getD []) (fun i=>listed.getD i false) ops.length) (acc κ0 (fun i=>(rs[i]?.map (·.bc.box)).getD []) (fun i=>listed.getD i false) ops.length) a w→Q .normal a w:=by
  intro listed a w hl hs
  refine hQ a w ?_
  have e1:∀t,acc ρ0 (fun i=>(rs[i]?.map (·.bc.dst)).getD []) (fun i=>listed.getD i false) ops.length t=acc ρ0 (fun i=>(rs[i]?.map (·.bc.dst)).getD []) (fun _=>true) ops.length t :=
   fun t=>nS fun i hi he=>by rw [hl i hi] at he; cases he
  have e2:∀t,acc κ0 (fun i=>(rs[i]?.map (·.bc.box)).getD []) (fun i=>listed.getD i false) ops.length t=acc κ0 (fun i=>(rs[i]?.map (·.bc.box)).getD []) (fun _=>true) ops.length t :=
   fun t=>nS fun i hi he=>by rw [hl i hi] at he; cases he
  rw [←funext e1,←funext e2]
  exact hs
 have stuck:∀(listed:Array Bool),listed.size=ops.length→Region.ready .any ops.toArray listed=[]→∀i,i<ops.length→listed.getD i false=true:=by
  intro listed aT hr i
  induction i using Nat.strongRecOn with
  | _ i ih =>
   intro hi
   cases hl:listed.getD i false with
   | true=>rfl
   | false =>
    have ho:ops[i]?=some (ops[i]'hi):=List.getElem?_eq_getElem hi
    have:i∈Region.ready .any ops.toArray listed:=(mem_ready aT).2 ⟨_,ho,hl,fun d hd=>ih d (by have:=jq Bg ho d hd; omega) (uM i _ ho d hd)⟩
    rw [hr] at this; cases this
 intro fuel
 induction fuel with
 | zero =>
  intro listed a w aT hc jX hs
  have hl:=rz (E:=fun i=>listed.getD i false) (m:=ops.length) (by omega)
  refine ⟨?_,done listed a w hl hs⟩
  refine List.eq_nil_iff_forall_not_mem.2 fun i hi=>?_
  obtain ⟨o,ho,h1,_⟩:=(mem_ready aT).1 hi
  have:listed.getD i false=true:=hl i (List.getElem?_eq_some_iff.1 ho).1
  rw [h1] at this; cases this
 | succ fuel ih =>
  intro listed a w aT hc jX hs
  refine ⟨fun hr=>done listed a w (stuck listed aT hr) hs,fun j hj=>?_⟩
  obtain ⟨o,ho,Fv,IH⟩:=(mem_ready aT).1 hj
  have wW:j<ops.length:=(List.getElem?_eq_some_iff.1 ho).1
  have Fw:rs[j]?=some (rs[j]'(by omega)):=List.getElem?_eq_getElem (by omega)
  obtain ⟨II,ru⟩:=db j _ o Fw ho
  have apart:∀(i:Nat) (x:Rec) (ox:Oper),rs[i]?=some x→ops[i]?=some ox→i ≠ j→(i<j∧listed.getD i false=false ∨ j<i∧listed.getD i false=true)→c8 ops x (rs[j]'(by omega)) o=true∧c8 ops (rs[j]'(by omega)) x ox=true:=by
   intro i x ox hx kY bB ow
   rcases ow with ⟨aJ,OP⟩ | ⟨aJ,OP⟩
   ·have h1:=jr lq Fw ho
    rw [Nat.zero_add] at h1
    rcases ln h1 hx kY (by omega) with hr | hr
    ·rw [Nat.zero_add] at hr
     have:listed.getD i false=true:=js (E:=fun i=>listed.getD i false) jX ho hr IH (uM j o ho) uM
     rw [OP] at this; cases this
    ·exact hr
   ·have h1:=jr lq hx kY
    rw [Nat.zero_add] at h1
    rcases ln h1 Fw ho (by omega) with hr | hr
    ·rw [Nat.zero_add] at hr
     have:listed.getD j false=true:=js (E:=fun i=>listed.getD i false) jX kY hr (jX i ox kY OP) (uM i ox kY) uM
     rw [Fv] at this; cases this
    ·exact ⟨hr.2,hr.1⟩
  have jY:∀i,i<ops.length→∃x ox,rs[i]?=some x∧ops[i]?=some ox:=fun i hi=>⟨_,_,List.getElem?_eq_getElem (by omega),List.getElem?_eq_getElem hi⟩
  have uN:∀t,(∀(x:Rec) (ox:Oper),c8 ops x (rs[j]'(by omega)) o=true→t ∉ keys x.bc.dst)→acc ρ0 (fun i=>(rs[i]?.map (·.bc.dst)).getD []) (fun i=>listed.getD i false) ops.length t=acc ρ0 (fun i=>(rs[i]?.map (·.bc.dst)).getD []) (fun _=>true) j t:=by
   intro t ht
   refine pV (by omega) (fun i hi he=>?_) (fun i C4 hi he=>?_)
   ·obtain ⟨x,ox,hx,kY⟩:=jY i (by omega)
    simp only [hx,Option.map_some,Option.getD_some]
    exact ht x ox (apart i x ox hx kY (by omega) (.inl ⟨hi,he⟩)).1
   ·rcases Nat.lt_or_eq_of_le C4 with aJ | rfl
    ·obtain ⟨x,ox,hx,kY⟩:=jY i hi
     simp only [hx,Option.map_some,Option.getD_some]
     exact ht x ox (apart i x ox hx kY (by omega) (.inr ⟨aJ,he⟩)).1
    ·rw [Fv] at he; cases he
  have fZ:∀t,(∀(x:Rec) (ox:Oper),c8 ops x (rs[j]'(by omega)) o=true→t ∉ keys x.bc.box)→acc κ0 (fun i=>(rs[i]?.map (·.bc.box)).getD []) (fun i=>listed.getD i false) ops.length t=acc κ0 (fun i=>(rs[i]?.map (·.bc.box)).getD []) (fun _=>true) j t:=by
   intro t ht
   refine pV (by omega) (fun i hi he=>?_) (fun i C4 hi he=>?_)
   ·obtain ⟨x,ox,hx,kY⟩:=jY i (by omega)
    simp only [hx,Option.map_some,Option.getD_some]
    exact ht x ox (apart i x ox hx kY (by omega) (.inl ⟨hi,he⟩)).1
   ·rcases Nat.lt_or_eq_of_le C4 with aJ | rfl
    ·obtain ⟨x,ox,hx,kY⟩:=jY i hi
     simp only [hx,Option.map_some,Option.getD_some]
     exact ht x ox (apart i x ox hx kY (by omega) (.inr ⟨aJ,he⟩)).1
    ·rw [Fv] at he; cases he
  have wP:∀{x y:Rec} {oy:Oper},c8 ops x y oy=true→iQ (hP x.bc.dst) (oy.looksAt ops.toArray)=true∧iQ (hP x.bc.dst) (hP y.bc.dst)=true∧iQ (dO x.bc.box) y.rows=true∧iQ (dO x.bc.box) y.bc.reads=true∧iQ (dO x.bc.box) (dO y.bc.box)=true:=by
   intro x y oy h
   simp only [c8,Bool.and_eq_true] at h
   exact ⟨h.1.1.1.1,h.1.1.1.2,h.1.1.2,h.1.2,h.2⟩
  have au:AJ ops o (acc ρ0 (fun i=>(rs[i]?.map (·.bc.dst)).getD []) (fun _=>true) j) (acc ρ0 (fun i=>(rs[i]?.map (·.bc.dst)).getD []) (fun i=>listed.getD i false) ops.length)
    (acc κ0 (fun i=>(rs[i]?.map (·.bc.box)).getD []) (fun _=>true) j) (acc κ0 (fun i=>(rs[i]?.map (·.bc.box)).getD []) (fun i=>listed.getD i false) ops.length) (rs[j]'(by omega)).bc.reads (rs[j]'(by omega)).bc.box:=by
   refine ⟨fun t ht=>uN t fun x ox h hm=>?_,fun i hi=>fZ i fun x ox h hm=>?_,fun i hi=>fZ i fun x ox h hm=>?_,fun i b hb=>fZ i fun x ox h hm=>?_⟩
   ·exact cz (wP h).1 t (by rw [kA]; exact hm) ht
   ·exact cz (wP h).2.2.1 i (by rw [cV]; exact hm) (by rw [II]; exact hi)
   ·exact cz (wP h).2.2.2.1 i (by rw [cV]; exact hm) hi
   ·exact cz (wP h).2.2.2.2 i (by rw [cV]; exact hm) (by rw [cV]; exact List.mem_map.2 ⟨(i,b),hb,rfl⟩)
  have aZ:=ru F hF _ _ au g a w ⟨dg,zb⟩ hs
  have iR:(fun i=>(listed.setIfInBounds j true).getD i false)=ku (fun i=>listed.getD i false) j:=by
   funext i
   simp only [ku,Array.getD_eq_getD_getElem?]
   by_cases e:i=j
   ·subst e; simp [aT,wW]
   ·rw [if_neg e,Array.getElem?_setIfInBounds_ne (fun h=>e h.symm)]
  have next:∀a' w',St g n (aw (acc ρ0 (fun i=>(rs[i]?.map (·.bc.dst)).getD []) (fun i=>listed.getD i false) ops.length) (rs[j]'(by omega)).bc.dst) (aw (acc κ0 (fun i=>(rs[i]?.map (·.bc.box)).getD []) (fun i=>listed.getD i false) ops.length) (rs[j]'(by omega)).bc.box) a' w' →
    wpAnyIn F 0 P .any ops.toArray Q fuel (listed.setIfInBounds j true) a' w':=by
   intro a' w' dC
   refine ih _ a' w' (by simp [aT]) ?_ ?_ ?_
   ·rw [iR]
    have:=uJ (E:=fun i=>listed.getD i false) Fv wW
    omega
   ·have IJ:∀i,(listed.setIfInBounds j true).getD i false=ku (fun i=>listed.getD i false) j i:=fun i=>congrFun iR i
    intro i o' gX hi d hd
    rw [IJ] at hi ⊢
    have up:listed.getD d false=true→ku (fun i=>listed.getD i false) j d=true:=fun h=>by
     by_cases e:d=j
     ·subst e; exact ry _ _
     ·rw [gK _ e]; exact h
    by_cases e:i=j
    ·subst e
     rw [ho] at gX; injection gX with gX; subst gX
     exact up (IH d hd)
    ·rw [gK _ e] at hi
     exact up (jX i o' gX hi d hd)
   ·rw [iR]
    rw [pW (f:=ρ0) Fv wW (fun i h1 h2 h3 t ht=>?_),pW (f:=κ0) Fv wW (fun i h1 h2 h3 t ht=>?_)]
    ·simpa [Fw] using dC
    ·obtain ⟨x,ox,hx,kY⟩:=jY i h2
     simp only [Fw,hx,Option.map_some,Option.getD_some] at ht ⊢
     have h5:=cz (wP (apart i x ox hx kY (by omega) (.inr ⟨h1,h3⟩)).2).2.2.2.2 t (by rw [cV]; exact ht)
     rwa [cV] at h5
    ·obtain ⟨x,ox,hx,kY⟩:=jY i h2
     simp only [Fw,hx,Option.map_some,Option.getD_some] at ht ⊢
     have h5:=cz (wP (apart i x ox hx kY (by omega) (.inr ⟨h1,h3⟩)).2).2.1 t (by rw [kA]; exact ht)
     rwa [kA] at h5
  unfold wpOpIn
  rw [show ops.toArray[j]?=some o by simpa using ho]
  unfold ke at aZ
  simp only
  split at aZ
  ·rename_i hw; rw [if_pos hw]; exact pU next aZ
  ·rename_i hw; rw [if_neg hw]; exact ⟨fun f _=>hF.fn f,next _ _ aZ⟩
theorem DC (zb:C g) {F:Fence} (hF:fQ F) {lo:Nat} (dg:g.m≤lo) {ρ0:Nat→AV} {κ0:Nat→ao} {rs:List Rec} {Q:Exit→Act→World→Prop} {sf:List (Nat × Nat)} {WU:Nat} (lq:uK ops rs sf WU=true) (hlen:rs.length=ops.length)
  (db:∀i r o,rs[i]?=some r→ops[i]?=some o→r.rows=fj (acc ρ0 (fun i=>(rs[i]?.map (·.bc.dst)).getD []) (fun _=>true) i) (acc κ0 (fun i=>(rs[i]?.map (·.bc.box)).getD []) (fun _=>true) i) o∧Ib P C ops n lo o (acc ρ0 (fun i=>(rs[i]?.map (·.bc.dst)).getD []) (fun _=>true) i) (acc κ0 (fun i=>(rs[i]?.map (·.bc.box)).getD []) (fun _=>true) i) r.bc)
  (Q6:∀j x,(j,x)∈sf→∀r o,rs[j]?=some r→ops[j]?=some o→r.rows=fj (Be ρ0 rs j) (w7 κ0 rs ops.length j x) o∧Ib P C ops n lo o (Be ρ0 rs j) (w7 κ0 rs ops.length j x) r.bc)
  (hQ:∀a w,St g n (acc ρ0 (fun i=>(rs[i]?.map (·.bc.dst)).getD []) (fun _=>true) ops.length) (acc κ0 (fun i=>(rs[i]?.map (·.bc.box)).getD []) (fun _=>true) ops.length) a w→Q .normal a w) :
  ∀(fuel:Nat) (listed:Array Bool) (a:Act) (w:World),listed.size=ops.length→pZ (fun i=>listed.getD i false) ops.length≤fuel →
   (∀i o,ops[i]?=some o→listed.getD i false=true→∀d,d∈pS o→listed.getD d false=true) →
   St g n (acc ρ0 (fun i=>(rs[i]?.map (·.bc.dst)).getD []) (fun i=>listed.getD i false) ops.length) (acc κ0 (fun i=>(rs[i]?.map (·.bc.box)).getD []) (fun i=>listed.getD i false) ops.length) a w →
   wpAnyIn F 0 P .any ops.toArray Q fuel listed a w:=by
 simp only [uK,Bool.and_eq_true] at lq
 obtain ⟨⟨⟨Bg,lq⟩,c6⟩,_⟩:=lq
 have uM:∀(q:Nat) (o:Oper),ops[q]?=some o→∀d,d∈pS o→d<ops.length:=fun q o ho d hd=>by
  have h1:=jq Bg ho d hd
  have h2:=(List.getElem?_eq_some_iff.1 ho).1
  omega
 have done:∀(listed:Array Bool) (a:Act) (w:World),(∀i,i<ops.length→listed.getD i false=true) →
   St g n (acc ρ0 (fun i=>(rs[i]?.map (·.bc.dst)).getD []) (fun i=>listed.getD i false) ops.length) (acc κ0 (fun i=>(rs[i]?.map (·.bc.box)).getD []) (fun i=>listed.getD i false) ops.length) a w→Q .normal a w:=by
  intro listed a w hl hs
  refine hQ a w ?_
  have e1:∀t,acc ρ0 (fun i=>(rs[i]?.map (·.bc.dst)).getD []) (fun i=>listed.getD i false) ops.length t=acc ρ0 (fun i=>(rs[i]?.map (·.bc.dst)).getD []) (fun _=>true) ops.length t :=
   fun t=>nS fun i hi he=>by rw [hl i hi] at he; cases he
  have e2:∀t,acc κ0 (fun i=>(rs[i]?.map (·.bc.box)).getD []) (fun i=>listed.getD i false) ops.length t=acc κ0 (fun i=>(rs[i]?.map (·.bc.box)).getD []) (fun _=>true) ops.length t :=
   fun t=>nS fun i hi he=>by rw [hl i hi] at he; cases he
  rw [←funext e1,←funext e2]
  exact hs
 have stuck:∀(listed:Array Bool),listed.size=ops.length→Region.ready .any ops.toArray listed=[]→∀i,i<ops.length→listed.getD i false=true:=by
  intro listed aT hr i
  induction i using Nat.strongRecOn with
  | _ i ih =>
   intro hi
   cases hl:listed.getD i false with
   | true=>rfl
   | false =>
    have ho:ops[i]?=some (ops[i]'hi):=List.getElem?_eq_getElem hi
    have:i∈Region.ready .any ops.toArray listed:=(mem_ready aT).2 ⟨_,ho,hl,fun d hd=>ih d (by have:=jq Bg ho d hd; omega) (uM i _ ho d hd)⟩
    rw [hr] at this; cases this
 intro fuel
 induction fuel with
 | zero =>
  intro listed a w aT hc jX hs
  have hl:=rz (E:=fun i=>listed.getD i false) (m:=ops.length) (by omega)
  refine ⟨?_,done listed a w hl hs⟩
  refine List.eq_nil_iff_forall_not_mem.2 fun i hi=>?_
  obtain ⟨o,ho,h1,_⟩:=(mem_ready aT).1 hi
  have:listed.getD i false=true:=hl i (List.getElem?_eq_some_iff.1 ho).1
  rw [h1] at this; cases this
 | succ fuel ih =>
  intro listed a w aT hc jX hs
  refine ⟨fun hr=>done listed a w (stuck listed aT hr) hs,fun j hj=>?_⟩
  obtain ⟨o,ho,Fv,IH⟩:=(mem_ready aT).1 hj
  have wW:j<ops.length:=(List.getElem?_eq_some_iff.1 ho).1
  have Fw:rs[j]?=some (rs[j]'(by omega)):=List.getElem?_eq_getElem (by omega)
  obtain ⟨II,ru⟩:=db j _ o Fw ho
  have wP:∀{x y:Rec} {oy:Oper},c8 ops x y oy=true→iQ (hP x.bc.dst) (oy.looksAt ops.toArray)=true∧iQ (hP x.bc.dst) (hP y.bc.dst)=true∧iQ (dO x.bc.box) y.rows=true∧iQ (dO x.bc.box) y.bc.reads=true∧iQ (dO x.bc.box) (dO y.bc.box)=true:=by
   intro x y oy h
   simp only [c8,Bool.and_eq_true] at h
   exact ⟨h.1.1.1.1,h.1.1.1.2,h.1.1.2,h.1.2,h.2⟩
  have S5:∀{x y:Rec} {oy:Oper},c8 ops x y oy=true→mL ops x y oy=true:=by
   intro x y oy h
   have:=wP h
   simp only [mL,Bool.and_eq_true]
   exact ⟨this.1,this.2.1⟩
  have QY:∀{y:Rec},xK y=true→y.bc.box=[]:=by
   intro y h
   unfold xK at h
   split at h
   ·assumption
   ·cases h
  have QA:∀(i:Nat) (x:Rec) (ox:Oper),rs[i]?=some x→ops[i]?=some ox→i ≠ j→(i<j∧listed.getD i false=false ∨ j<i∧listed.getD i false=true) →
    mL ops x (rs[j]'(by omega)) o=true∧iQ (hP (rs[j]'(by omega)).bc.dst) (hP x.bc.dst)=true∧iQ (dO (rs[j]'(by omega)).bc.box) (dO x.bc.box)=true∧(c8 ops x (rs[j]'(by omega)) o=true ∨ w6 j i sf=true):=by
   intro i x ox hx kY bB ow
   rcases ow with ⟨aJ,OP⟩ | ⟨aJ,OP⟩
   ·have h1:=iB lq Fw ho
    rw [Nat.zero_add] at h1
    rcases kh h1 hx kY (by omega) with hr | ⟨h2,h3⟩ | ⟨h2,h3,h4,h5⟩ | ⟨h2,h3,h4,h5⟩
    ·rw [Nat.zero_add] at hr
     have:listed.getD i false=true:=js (E:=fun i=>listed.getD i false) jX ho hr IH (uM j o ho) uM
     rw [OP] at this; cases this
    ·exact ⟨S5 h2,(wP h3).2.1,(wP h3).2.2.2.2,.inl h2⟩
    ·rw [Nat.zero_add] at h2
     exact ⟨h3,(wP h5).2.1,(wP h5).2.2.2.2,.inr h2⟩
    ·simp only [mL,Bool.and_eq_true] at h3
     exact ⟨S5 h5,h3.2,by rw [QY h4]; exact uL _,.inl h5⟩
   ·have h1:=iB lq hx kY
    rw [Nat.zero_add] at h1
    rcases kh h1 Fw ho (by omega) with hr | ⟨h2,h3⟩ | ⟨h2,h3,h4,h5⟩ | ⟨h2,h3,h4,h5⟩
    ·rw [Nat.zero_add] at hr
     have:listed.getD j false=true:=js (E:=fun i=>listed.getD i false) jX kY hr (jX i ox kY OP) (uM i ox kY) uM
     rw [Fv] at this; cases this
    ·exact ⟨S5 h3,(wP h2).2.1,(wP h2).2.2.2.2,.inl h3⟩
    ·simp only [mL,Bool.and_eq_true] at h3
     exact ⟨S5 h5,h3.2,by rw [QY h4]; exact uL _,.inl h5⟩
    ·rw [Nat.zero_add] at h2
     exact ⟨h3,(wP h5).2.1,(wP h5).2.2.2.2,.inr h2⟩
  have jY:∀i,i<ops.length→∃x ox,rs[i]?=some x∧ops[i]?=some ox:=fun i hi=>⟨_,_,List.getElem?_eq_getElem (by omega),List.getElem?_eq_getElem hi⟩
  have uN:∀t,(∀(x:Rec),mL ops x (rs[j]'(by omega)) o=true→t ∉ keys x.bc.dst)→acc ρ0 (fun i=>(rs[i]?.map (·.bc.dst)).getD []) (fun i=>listed.getD i false) ops.length t=acc ρ0 (fun i=>(rs[i]?.map (·.bc.dst)).getD []) (fun _=>true) j t:=by
   intro t ht
   refine pV (by omega) (fun i hi he=>?_) (fun i C4 hi he=>?_)
   ·obtain ⟨x,ox,hx,kY⟩:=jY i (by omega)
    simp only [hx,Option.map_some,Option.getD_some]
    exact ht x (QA i x ox hx kY (by omega) (.inl ⟨hi,he⟩)).1
   ·rcases Nat.lt_or_eq_of_le C4 with aJ | rfl
    ·obtain ⟨x,ox,hx,kY⟩:=jY i hi
     simp only [hx,Option.map_some,Option.getD_some]
     exact ht x (QA i x ox hx kY (by omega) (.inr ⟨aJ,he⟩)).1
    ·rw [Fv] at he; cases he
  have bs:∀t,t∈o.looksAt ops.toArray→acc ρ0 (fun i=>(rs[i]?.map (·.bc.dst)).getD []) (fun i=>listed.getD i false) ops.length t=acc ρ0 (fun i=>(rs[i]?.map (·.bc.dst)).getD []) (fun _=>true) j t:=fun t ht=>uN t fun x h hm=>by
   simp only [mL,Bool.and_eq_true] at h
   exact cz h.1 t (by rw [kA]; exact hm) ht
  have aZ:ke P F ops.toArray o a w fun a' w'=>St g n (aw (acc ρ0 (fun i=>(rs[i]?.map (·.bc.dst)).getD []) (fun i=>listed.getD i false) ops.length) (rs[j]'(by omega)).bc.dst) (aw (acc κ0 (fun i=>(rs[i]?.map (·.bc.box)).getD []) (fun i=>listed.getD i false) ops.length) (rs[j]'(by omega)).bc.box) a' w':=by
   by_cases hex:∃q,w6 j q sf=true∧q ≠ j∧q<ops.length∧(q<j∧listed.getD q false=false ∨ j<q∧listed.getD q false=true)
   ·-- with a harmless writer out of WV place
    obtain ⟨q,hq,YI,IK,WW⟩:=hex
    obtain ⟨OQ,Q7⟩:=Q6 j q (qa hq) _ o Fw ho
    have fZ:∀t,(∀(x:Rec) (ox:Oper),c8 ops x (rs[j]'(by omega)) o=true→t ∉ keys x.bc.box)→acc κ0 (fun i=>(rs[i]?.map (·.bc.box)).getD []) (fun i=>listed.getD i false) ops.length t=w7 κ0 rs ops.length j q t:=by
     intro t ht
     refine xL fun i hi bB=>?_
     obtain ⟨x,ox,hx,kY⟩:=jY i hi
     simp only [hx,Option.map_some,Option.getD_some]
     by_cases TX:i=q
     ·exfalso
      subst TX
      apply bB
      simp only [TW,Nat.beq_refl,cond_true]
      rcases WW with ⟨h1,h2⟩ | ⟨h1,h2⟩
      ·rw [h2,show Nat.blt i j=true by rw [Nat.blt_eq]; exact h1]; rfl
      ·rw [h2,show Nat.blt i j=false by cases hb:Nat.blt i j with | false=>rfl | true=>rw [Nat.blt_eq] at hb; omega]; rfl
     ·have hb:Nat.beq i q=false:=by cases hb:Nat.beq i q with | false=>rfl | true=>exact absurd (Nat.eq_of_beq_eq_true hb) TX
      simp only [TW,hb,cond_false] at bB
      by_cases Fi:i=j
      ·subst Fi
       exfalso
       apply bB
       rw [Fv]
       cases cw:Nat.blt i i with | false=>rfl | true=>rw [Nat.blt_eq] at cw; omega
      ·have ow:i<j∧listed.getD i false=false ∨ j<i∧listed.getD i false=true:=by
        rcases Nat.lt_or_gt_of_ne Fi with h | h
        ·left
         refine ⟨h,?_⟩
         rw [show Nat.blt i j=true by rw [Nat.blt_eq]; exact h] at bB
         simpa using bB
        ·right
         refine ⟨h,?_⟩
         rw [show Nat.blt i j=false by cases hb:Nat.blt i j with | false=>rfl | true=>rw [Nat.blt_eq] at hb; omega] at bB
         simpa using bB
       rcases (QA i x ox hx kY Fi ow).2.2.2 with h | h
       ·exact ht x ox h
       ·exact absurd (sL c6 (qa h) (qa hq)) TX
    refine Q7 F hF _ _ ⟨bs,fun i hi=>fZ i fun x ox h hm=>?_,fun i hi=>fZ i fun x ox h hm=>?_,fun i b hb=>fZ i fun x ox h hm=>?_⟩ g a w ⟨dg,zb⟩ hs
    ·exact cz (wP h).2.2.1 i (by rw [cV]; exact hm) (by rw [OQ]; exact hi)
    ·exact cz (wP h).2.2.2.1 i (by rw [cV]; exact hm) hi
    ·exact cz (wP h).2.2.2.2 i (by rw [cV]; exact hm) (by rw [cV]; exact List.mem_map.2 ⟨(i,b),hb,rfl⟩)
   ·have full:∀(i:Nat) (x:Rec) (ox:Oper),rs[i]?=some x→ops[i]?=some ox→i ≠ j→(i<j∧listed.getD i false=false ∨ j<i∧listed.getD i false=true)→c8 ops x (rs[j]'(by omega)) o=true:=by
     intro i x ox hx kY bB ow
     rcases (QA i x ox hx kY bB ow).2.2.2 with h | h
     ·exact h
     ·exact absurd ⟨i,h,bB,(List.getElem?_eq_some_iff.1 kY).1,ow⟩ hex
    have fZ:∀t,(∀(x:Rec) (ox:Oper),c8 ops x (rs[j]'(by omega)) o=true→t ∉ keys x.bc.box)→acc κ0 (fun i=>(rs[i]?.map (·.bc.box)).getD []) (fun i=>listed.getD i false) ops.length t=acc κ0 (fun i=>(rs[i]?.map (·.bc.box)).getD []) (fun _=>true) j t:=by
     intro t ht
     refine pV (by omega) (fun i hi he=>?_) (fun i C4 hi he=>?_)
     ·obtain ⟨x,ox,hx,kY⟩:=jY i (by omega)
      simp only [hx,Option.map_some,Option.getD_some]
      exact ht x ox (full i x ox hx kY (by omega) (.inl ⟨hi,he⟩))
     ·rcases Nat.lt_or_eq_of_le C4 with aJ | rfl
      ·obtain ⟨x,ox,hx,kY⟩:=jY i hi
       simp only [hx,Option.map_some,Option.getD_some]
       exact ht x ox (full i x ox hx kY (by omega) (.inr ⟨aJ,he⟩))
      ·rw [Fv] at he; cases he
    refine ru F hF _ _ ⟨bs,fun i hi=>fZ i fun x ox h hm=>?_,fun i hi=>fZ i fun x ox h hm=>?_,fun i b hb=>fZ i fun x ox h hm=>?_⟩ g a w ⟨dg,zb⟩ hs
    ·exact cz (wP h).2.2.1 i (by rw [cV]; exact hm) (by rw [II]; exact hi)
    ·exact cz (wP h).2.2.2.1 i (by rw [cV]; exact hm) hi
    ·exact cz (wP h).2.2.2.2 i (by rw [cV]; exact hm) (by rw [cV]; exact List.mem_map.2 ⟨(i,b),hb,rfl⟩)
  have iR:(fun i=>(listed.setIfInBounds j true).getD i false)=ku (fun i=>listed.getD i false) j:=by
   funext i
   simp only [ku,Array.getD_eq_getD_getElem?]
   by_cases e:i=j
   ·subst e; simp [aT,wW]
   ·rw [if_neg e,Array.getElem?_setIfInBounds_ne (fun h=>e h.symm)]
  have next:∀a' w',St g n (aw (acc ρ0 (fun i=>(rs[i]?.map (·.bc.dst)).getD []) (fun i=>listed.getD i false) ops.length) (rs[j]'(by omega)).bc.dst) (aw (acc κ0 (fun i=>(rs[i]?.map (·.bc.box)).getD []) (fun i=>listed.getD i false) ops.length) (rs[j]'(by omega)).bc.box) a' w' →
    wpAnyIn F 0 P .any ops.toArray Q fuel (listed.setIfInBounds j true) a' w':=by
   intro a' w' dC
   refine ih _ a' w' (by simp [aT]) ?_ ?_ ?_
   ·rw [iR]
    have:=uJ (E:=fun i=>listed.getD i false) Fv wW
    omega
   ·have IJ:∀i,(listed.setIfInBounds j true).getD i false=ku (fun i=>listed.getD i false) j i:=fun i=>congrFun iR i
    intro i o' gX hi d hd
    rw [IJ] at hi ⊢
    have up:listed.getD d false=true→ku (fun i=>listed.getD i false) j d=true:=fun h=>by
     by_cases e:d=j
     ·subst e; exact ry _ _
     ·rw [gK _ e]; exact h
    by_cases e:i=j
    ·subst e
     rw [ho] at gX; injection gX with gX; subst gX
     exact up (IH d hd)
    ·rw [gK _ e] at hi
     exact up (jX i o' gX hi d hd)
   ·rw [iR]
    rw [pW (f:=ρ0) Fv wW (fun i h1 h2 h3 t ht=>?_),pW (f:=κ0) Fv wW (fun i h1 h2 h3 t ht=>?_)]
    ·simpa [Fw] using dC
    ·obtain ⟨x,ox,hx,kY⟩:=jY i h2
     simp only [Fw,hx,Option.map_some,Option.getD_some] at ht ⊢
     have h5:=cz (QA i x ox hx kY (by omega) (.inr ⟨h1,h3⟩)).2.2.1 t (by rw [cV]; exact ht)
     rwa [cV] at h5
    ·obtain ⟨x,ox,hx,kY⟩:=jY i h2
     simp only [Fw,hx,Option.map_some,Option.getD_some] at ht ⊢
     have h5:=cz (QA i x ox hx kY (by omega) (.inr ⟨h1,h3⟩)).2.1 t (by rw [kA]; exact ht)
     rwa [kA] at h5
  unfold wpOpIn
  rw [show ops.toArray[j]?=some o by simpa using ho]
  unfold ke at aZ
  simp only
  split at aZ
  ·rename_i hw; rw [if_pos hw]; exact pU next aZ
  ·rename_i hw; rw [if_neg hw]; exact ⟨fun f _=>hF.fn f,next _ _ aZ⟩
end
end Go.TM
