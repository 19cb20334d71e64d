import Derived.Test.YtpbdohkbiklflaaGreatDoorCM11
set_option linter.unusedVariables false
set_option linter.unusedSimpArgs false
set_option linter.unusedSectionVars false
namespace Go.TM
open Go.RowKit
variable [cu]
theorem cJ:∀{l r:List Nat},jm l r=true→∀x,x∈l→x ∉ r
 | [],r,_,x,h=>by simp at h
 | y::l,r,h,x,hx=>by
  simp only [jm,Bool.and_eq_true,Bool.not_eq_true'] at h
  rcases List.mem_cons.1 hx with rfl | hx
  ·exact eD h.1
  ·exact cJ h.2 x hx
theorem kY (l:List (Nat × AV)):iE l=keys l:=by
 induction l with
 | nil=>rfl
 | cons p r ih=>simp [iE,keys,ih]
theorem c6 (l:List (Nat × ar)):dY l=keys l:=by
 induction l with
 | nil=>rfl
 | cons p r ih=>simp [dY,keys,ih]
def qX (E:Nat→Bool):Nat→Nat
 | 0=>0
 | m+1=>(if E m then 0 else 1)+qX E m
theorem sw (E:Nat→Bool) (j:Nat):kV E j j=true:=by simp [kV]
theorem hP (E:Nat→Bool) {i j:Nat} (h:i ≠ j):kV E j i=E i:=by simp [kV,h]
theorem vQ {E:Nat→Bool} {j:Nat} (hj:E j=false):∀{m:Nat},j<m→qX (kV E j) m+1=qX E m
 | 0,h=>by omega
 | m+1,h=>by
  rcases Nat.lt_or_ge j m with aK | dy
  ·have ih:=vQ hj aK
   have e:=hP E (i:=m) (j:=j) (by omega)
   simp only [qX,e]
   omega
  ·have:j=m:=by omega
   subst this
   have low:∀q,q≤j→qX (kV E j) q=qX E q:=by
    intro q
    induction q with
    | zero=>intro _; rfl
    | succ q ih =>
     intro hq
     have e:=hP E (i:=q) (j:=j) (by omega)
     simp only [qX,e,ih (by omega)]
   have:=low j (Nat.le_refl _)
   simp only [qX,sw,hj,if_true,Bool.false_eq_true,if_false]
   omega
theorem sx {E:Nat→Bool}:∀{m:Nat},qX E m=0→∀i,i<m→E i=true
 | 0,_,i,hi=>by omega
 | m+1,h,i,hi=>by
  simp only [qX] at h
  rcases Nat.lt_or_ge i m with aK | dy
  ·exact sx (by omega) i aK
  ·have:i=m:=by omega
   subst this
   cases he:E i with
   | true=>rfl
   | false=>simp [he] at h
section
variable {ops:List Oper}
theorem jL:∀{l:List Oper} {s:Nat},vM s l=true→∀{i:Nat} {o:Oper},l[i]?=some o→∀d,d∈qR o→d<s+i
 | [],s,_,i,o,h,_,_=>by simp at h
 | x::l,s,he,i,o,h,d,hd=>by
  simp only [vM,Bool.and_eq_true,List.all_eq_true] at he
  cases i with
  | zero=>simp at h; subst h; have:=he.1 d hd; rw [Nat.blt_eq] at this; omega
  | succ i=>have:=jL he.2 (i:=i) (by simpa using h) d hd; omega
theorem lR {rs:List Rec} {j:Nat} {y:Rec} {oy:Oper}:∀{xr:List Rec} {xo:List Oper} {s:Nat},qS ops rs j y oy s xr xo=true→∀{i:Nat} {x:Rec} {ox:Oper},xr[i]?=some x→xo[i]?=some ox→s+i<j →
  nv ops ops.length (s+i) j=true ∨ (dh ops x y oy=true∧dh ops y x ox=true)
 | [],xo,s,_,i,x,ox,h,_,_=>by simp at h
 | _::_,[],s,_,i,x,ox,_,h,_=>by simp at h
 | a::xr,b::xo,s,hh,i,x,ox,h1,h2,aK=>by
  simp only [qS,Bool.and_eq_true] at hh
  cases i with
  | zero =>
   simp at h1 h2
   subst h1; subst h2
   have:=hh.1
   rw [show Nat.blt s j=true by rw [Nat.blt_eq]; omega] at this
   simpa using this
  | succ i =>
   have:=lR hh.2 (i:=i) (by simpa using h1) (by simpa using h2) (by omega)
   rw [show s+(i+1)=s+1+i by omega]; exact this
theorem jM {rs:List Rec}:∀{yr:List Rec} {yo:List Oper} {s:Nat},oD ops rs s yr yo=true→∀{j:Nat} {y:Rec} {oy:Oper},yr[j]?=some y→yo[j]?=some oy →
  qS ops rs (s+j) y oy 0 rs ops=true
 | [],yo,s,_,j,y,oy,h,_=>by simp at h
 | _::_,[],s,_,j,y,oy,_,h=>by simp at h
 | a::yr,b::yo,s,hh,j,y,oy,h1,h2=>by
  simp only [oD,Bool.and_eq_true] at hh
  cases j with
  | zero=>simp at h1 h2; subst h1; subst h2; exact hh.1
  | succ j =>
   have:=jM hh.2 (j:=j) (by simpa using h1) (by simpa using h2)
   rw [show s+(j+1)=s+1+j by omega]; exact this
theorem CA {o:Oper} {d:Nat}:d∈qR o ↔ ∃e,e∈o.after.toList∧Region.binds .any e=true∧e.on=d:=by
 unfold qR
 rw [List.mem_filterMap]
 constructor
 ·rintro ⟨e,he,h⟩
  cases hb:Region.binds .any e with
  | false=>rw [hb] at h; cases h
  | true=>rw [hb] at h; simp at h; exact ⟨e,he,hb,h⟩
 ·rintro ⟨e,he,hb,rfl⟩
  exact ⟨e,he,by rw [hb]; rfl⟩
theorem jN {E:Nat→Bool} (kp:∀i o,ops[i]?=some o→E i=true→∀d,d∈qR o→E d=true):∀{f i j:Nat} {o:Oper},ops[j]?=some o→nv ops f i j=true→(∀d,d∈qR o→E d=true)→(∀d,d∈qR o→d<ops.length)→(∀(q:Nat) (o:Oper),ops[q]?=some o→∀d,d∈qR o→d<ops.length)→E i=true
 | 0,i,j,o,_,h,_,_,_=>by simp [nv] at h
 | f+1,i,j,o,ho,h,hd,hl,dk=>by
  simp only [nv,ho,List.any_eq_true,Bool.or_eq_true] at h
  obtain ⟨d,WC,h⟩:=h
  rcases h with h | h
  ·have:=Nat.eq_of_beq_eq_true h; subst this; exact hd d WC
  ·have aK:=hl d WC
   have WD:ops[d]?=some (ops[d]'aK):=List.getElem?_eq_getElem aK
   exact jN kp WD h (kp d _ WD (hd d WC)) (dk d _ WD) dk
theorem mem_ready {listed:Array Bool} {i:Nat} (aU:listed.size=ops.length):i∈Region.ready .any ops.toArray listed ↔ ∃o,ops[i]?=some o∧listed.getD i false=false∧∀d,d∈qR o→listed.getD d false=true:=by
 unfold Region.ready
 rw [List.mem_filter,List.mem_range]
 constructor
 ·rintro ⟨aK,h⟩
  have gB:i<ops.length:=by simpa using aK
  have ho:ops[i]?=some (ops[i]'gB):=List.getElem?_eq_getElem gB
  refine ⟨_,ho,?_,?_⟩
  ·simp only [Bool.and_eq_true,Bool.not_eq_true'] at h
   have h1:=h.1
   simp only [Array.getD_eq_getD_getElem?] at h1 ⊢
   rw [Array.getElem?_eq_getElem (by omega)] at h1 ⊢
   simpa using h1
  ·intro d hd
   simp only [Bool.and_eq_true] at h
   have h2:=h.2
   rw [show ops.toArray[i]?=some (ops[i]'gB) by simp] at h2
   simp only [Option.map_some,Option.getD_some,Array.all_eq_true'] at h2
   obtain ⟨e,he,hb,rfl⟩:=CA.1 hd
   have:=h2 e (by simpa using he)
   simpa [hb] using this
 ·rintro ⟨o,ho,h1,h2⟩
  have aK:i<ops.length:=(List.getElem?_eq_some_iff.1 ho).1
  refine ⟨by simpa using aK,?_⟩
  simp only [Bool.and_eq_true,Bool.not_eq_true']
  constructor
  ·simp only [Array.getD_eq_getD_getElem?] at h1 ⊢
   rw [Array.getElem?_eq_getElem (by omega)] at h1 ⊢
   simpa using h1
  ·rw [show ops.toArray[i]?=some o by simpa using ho]
   simp only [Option.map_some,Option.getD_some,Array.all_eq_true']
   intro e he
   cases hb:Region.binds .any e with
   | false=>rfl
   | true =>
    have:=h2 e.on (CA.2 ⟨e,by simpa using he,hb,rfl⟩)
    simpa using this
end
def nw (ops:List Oper) (x y:Rec) (oy:Oper):Bool:=jm (iE x.bk.dst) (oy.looksAt ops.toArray) && jm (iE x.bk.dst) (iE y.bk.dst)
def yV (y:Rec):Bool:=match y.bk.box with
 | []=>true
 | _=>false
def yh (j i:Nat):List (Nat × Nat)→Bool
 | []=>false
 | p::r=>(Nat.beq p.1 j && Nat.beq p.2 i) || yh j i r
def ny (ops:List Oper) (rs:List Rec) (sf:List (Nat × Nat)) (j:Nat) (y:Rec) (oy:Oper):Nat→List Rec→List Oper→Bool
 | i,x::xr,ox::or=>(bif Nat.blt i j then nv ops ops.length i j || (dh ops x y oy && dh ops y x ox) || (yh j i sf && nw ops x y oy && yV y && dh ops y x ox) || (yh i j sf && nw ops y x ox && yV x && dh ops x y oy) else true) && ny ops rs sf j y oy (i+1) xr or
 | _,_,_=>true
def lS (ops:List Oper) (rs:List Rec) (sf:List (Nat × Nat)):Nat→List Rec→List Oper→Bool
 | j,y::yr,oy::or=>ny ops rs sf j y oy 0 rs ops && lS ops rs sf (j+1) yr or
 | _,_,_=>true
def sy:List (Nat × Nat)→List Nat
 | []=>[]
 | p::r=>p.1::sy r
def oG (nx:Nat):List Rec→Bool
 | []=>true
 | r::l=>(dY r.bk.box).all (fun i=>Nat.blt i nx) && oG nx l
def vR (ops:List Oper) (rs:List Rec) (sf:List (Nat × Nat)) (nx:Nat):Bool:=vM 0 ops && lS ops rs sf 0 rs ops && eP (sy sf) && oG nx rs
def WE (j x:Nat):Nat→Bool:=fun i=>bif Nat.beq i x then !Nat.blt i j else Nat.blt i j
def CB (ρ0:Nat→AV) (rs:List Rec) (j:Nat):Nat→AV:=acc ρ0 (fun i=>(rs[i]?.map (·.bk.dst)).getD []) (fun _=>true) j
def yi (κ0:Nat→ar) (rs:List Rec) (m j x:Nat):Nat→ar:=acc κ0 (fun i=>(rs[i]?.map (·.bk.box)).getD []) (WE j x) m
def Rg (P:Program) (T:List TI) (ops:List Oper) (n nx:Nat) (o:Oper) (ρ:Nat→AV) (κ:Nat→ar) (bk:jH):Prop:=er P T→∀C:dD→Prop,c5 P C→(∀i,nx≤i→κ i=.none)→Good P C ops n o nx ρ κ fun e _=>e=bk
def CC (P:Program) (T:List TI) (ops:List Oper) (n nx:Nat) (ρ0:Nat→AV) (κ0:Nat→ar) (rs:List Rec):List (Nat × Nat)→Prop
 | []=>True
 | (j,x)::r=>(match ops[j]?,rs[j]? with
  | some o,some rc=>rc.rows=fF (CB ρ0 rs j) (yi κ0 rs ops.length j x) o∧Rg P T ops n nx o (CB ρ0 rs j) (yi κ0 rs ops.length j x) rc.bk
  | _,_=>False)∧CC P T ops n nx ρ0 κ0 rs r
theorem vS:∀l:List Nat,jm l []=true
 | []=>rfl
 | _::l=>by simp only [jm,gu,Bool.not_false,Bool.true_and]; exact vS l
theorem qY {j i:Nat}:∀{sf:List (Nat × Nat)},yh j i sf=true→(j,i)∈sf
 | [],h=>by simp [yh] at h
 | p::r,h=>by
  simp only [yh,Bool.or_eq_true,Bool.and_eq_true] at h
  rcases h with ⟨h1,h2⟩ | h
  ·have e1:=Nat.eq_of_beq_eq_true h1
   have e2:=Nat.eq_of_beq_eq_true h2
   obtain ⟨a,b⟩:=p
   simp only at e1 e2
   subst e1; subst e2
   exact List.mem_cons_self
  ·exact List.mem_cons_of_mem _ (qY h)
theorem pS {j i:Nat}:∀{sf:List (Nat × Nat)},(j,i)∈sf→j∈sy sf
 | [],h=>by simp at h
 | p::r,h=>by
  simp only [sy]
  rcases List.mem_cons.1 h with rfl | h
  ·exact List.mem_cons_self
  ·exact List.mem_cons_of_mem _ (pS h)
theorem tJ {j i i':Nat}:∀{sf:List (Nat × Nat)},eP (sy sf)=true→(j,i)∈sf→(j,i')∈sf→i=i'
 | [],_,h,_=>by simp at h
 | p::r,hn,h,h'=>by
  obtain ⟨IY,ZK⟩:=tK (i:=p.1) (r:=sy r) hn
  rcases List.mem_cons.1 h with h1 | h1
  ·rcases List.mem_cons.1 h' with h2 | h2
   ·have:=h1.trans h2.symm
    injection this
   ·subst h1; exact absurd (pS h2) IY
  ·rcases List.mem_cons.1 h' with h2 | h2
   ·subst h2; exact absurd (pS h1) IY
   ·exact tJ ZK h1 h2
theorem yW {γ:Type _} {f:Nat→γ} {wr:Nat→List (Nat × γ)} {E E':Nat→Bool} {t:Nat}:∀{len:Nat},(∀i,i<len→E i ≠ E' i→t ∉ keys (wr i))→acc f wr E len t=acc f wr E' len t
 | 0,_=>rfl
 | len+1,h=>by
  have ih:=yW (t:=t) (len:=len) (f:=f) (wr:=wr) (E:=E) (E':=E') fun i hi=>h i (by omega)
  simp only [acc]
  by_cases e:E len=E' len
  ·rw [e]
   cases E' len with
   | false=>simpa using ih
   | true =>
    simp only [if_true]
    by_cases hk:t∈keys (wr len)
    ·have key:∀(l:List (Nat × γ)),t∈keys l→∀g g':Nat→γ,az g l t=az g' l t:=by
      intro l
      induction l with
      | nil=>intro hk; simp [keys] at hk
      | cons p r ZL =>
       intro hk g g'
       obtain ⟨i,x⟩:=p
       simp only [az]
       by_cases e:t=i
       ·subst e; simp
       ·rw [ae _ _ e,ae _ _ e]
        refine ZL ?_ g g'
        simp only [keys,List.map_cons,List.mem_cons] at hk
        rcases hk with rfl | hk
        ·exact absurd rfl e
        ·exact hk
     exact key _ hk _ _
    ·rw [cj _ hk,cj _ hk]; exact ih
  ·have hk:=h len (by omega) e
   have u1:(if E len=true then az (acc f wr E len) (wr len) else acc f wr E len) t=acc f wr E len t:=by
    split
    ·exact cj _ hk
    ·rfl
   have u2:(if E' len=true then az (acc f wr E' len) (wr len) else acc f wr E' len) t=acc f wr E' len t:=by
    split
    ·exact cj _ hk
    ·rfl
   rw [u1,u2]; exact ih
theorem kJ {ops:List Oper} {rs:List Rec} {sf:List (Nat × Nat)} {j:Nat} {y:Rec} {oy:Oper}:∀{xr:List Rec} {xo:List Oper} {s:Nat},ny ops rs sf j y oy s xr xo=true→∀{i:Nat} {x:Rec} {ox:Oper},xr[i]?=some x→xo[i]?=some ox→s+i<j →
  nv ops ops.length (s+i) j=true ∨ (dh ops x y oy=true∧dh ops y x ox=true) ∨ (yh j (s+i) sf=true∧nw ops x y oy=true∧yV y=true∧dh ops y x ox=true) ∨ (yh (s+i) j sf=true∧nw ops y x ox=true∧yV x=true∧dh ops x y oy=true)
 | [],xo,s,_,i,x,ox,h,_,_=>by simp at h
 | _::_,[],s,_,i,x,ox,_,h,_=>by simp at h
 | a::xr,b::xo,s,hh,i,x,ox,h1,h2,aK=>by
  simp only [ny,Bool.and_eq_true] at hh
  cases i with
  | zero =>
   simp at h1 h2
   subst h1; subst h2
   have:=hh.1
   rw [show Nat.blt s j=true by rw [Nat.blt_eq]; omega] at this
   simp only [cond_true,Bool.or_eq_true,Bool.and_eq_true] at this
   rcases this with ((h | h) | h) | h
   ·exact .inl h
   ·exact .inr (.inl h)
   ·exact .inr (.inr (.inl ⟨h.1.1.1,h.1.1.2,h.1.2,h.2⟩))
   ·exact .inr (.inr (.inr ⟨h.1.1.1,h.1.1.2,h.1.2,h.2⟩))
  | succ i =>
   have:=kJ hh.2 (i:=i) (by simpa using h1) (by simpa using h2) (by omega)
   rw [show s+(i+1)=s+1+i by omega]; exact this
theorem iX {ops:List Oper} {rs:List Rec} {sf:List (Nat × Nat)}:∀{yr:List Rec} {yo:List Oper} {s:Nat},lS ops rs sf s yr yo=true→∀{j:Nat} {y:Rec} {oy:Oper},yr[j]?=some y→yo[j]?=some oy →
  ny ops rs sf (s+j) y oy 0 rs ops=true
 | [],yo,s,_,j,y,oy,h,_=>by simp at h
 | _::_,[],s,_,j,y,oy,_,h=>by simp at h
 | a::yr,b::yo,s,hh,j,y,oy,h1,h2=>by
  simp only [lS,Bool.and_eq_true] at hh
  cases j with
  | zero=>simp at h1 h2; subst h1; subst h2; exact hh.1
  | succ j =>
   have:=iX hh.2 (j:=j) (by simpa using h1) (by simpa using h2)
   rw [show s+(j+1)=s+1+j by omega]; exact this
section
variable {P:Program} {C:dD→Prop} {ops:List Oper} {n:Nat} {g:dD}
theorem yX (Ax:C g) {F:Fence} (hF:gr F) {lo:Nat} (dq:g.m≤lo) {ρ0:Nat→AV} {κ0:Nat→ar} {rs:List Rec} {Q:Exit→Act→World→Prop} (lT:ss ops rs=true) (hlen:rs.length=ops.length)
  (dk:∀i r o,rs[i]?=some r→ops[i]?=some o→r.rows=fF (acc ρ0 (fun i=>(rs[i]?.map (·.bk.dst)).getD []) (fun _=>true) i) (acc κ0 (fun i=>(rs[i]?.map (·.bk.box)).getD []) (fun _=>true) i) o∧Kj P C ops n lo o (acc ρ0 (fun i=>(rs[i]?.map (·.bk.dst)).getD []) (fun _=>true) i) (acc κ0 (fun i=>(rs[i]?.map (·.bk.box)).getD []) (fun _=>true) i) r.bk)
  (hQ:∀a w,St g n (acc ρ0 (fun i=>(rs[i]?.map (·.bk.dst)).getD []) (fun _=>true) ops.length) (acc κ0 (fun i=>(rs[i]?.map (·.bk.box)).getD []) (fun _=>true) ops.length) a w→Q .normal a w) :
  ∀(fuel:Nat) (listed:Array Bool) (a:Act) (w:World),listed.size=ops.length→qX (fun i=>listed.getD i false) ops.length≤fuel →
   (∀i o,ops[i]?=some o→listed.getD i false=true→∀d,d∈qR o→listed.getD d false=true) →
   St g n (acc ρ0 (fun i=>(rs[i]?.map (·.bk.dst)).getD []) (fun i=>listed.getD i false) ops.length) (acc κ0 (fun i=>(rs[i]?.map (·.bk.box)).getD []) (fun i=>listed.getD i false) ops.length) a w →
   wpAnyIn F 0 P .any ops.toArray Q fuel listed a w:=by
 simp only [ss,Bool.and_eq_true] at lT
 obtain ⟨CD,lT⟩:=lT
 have vT:∀(q:Nat) (o:Oper),ops[q]?=some o→∀d,d∈qR o→d<ops.length:=fun q o ho d hd=>by
  have h1:=jL CD ho d hd
  have h2:=(List.getElem?_eq_some_iff.1 ho).1
  omega
 have done:∀(listed:Array Bool) (a:Act) (w:World),(∀i,i<ops.length→listed.getD i false=true) →
   St g n (acc ρ0 (fun i=>(rs[i]?.map (·.bk.dst)).getD []) (fun i=>listed.getD i false) ops.length) (acc κ0 (fun i=>(rs[i]?.map (·.bk.box)).getD []) (fun i=>listed.getD i false) ops.length) a w→Q .normal a w:=by
  intro listed a w hl hs
  refine hQ a w ?_
  have e1:∀t,acc ρ0 (fun i=>(rs[i]?.map (·.bk.dst)).getD []) (fun i=>listed.getD i false) ops.length t=acc ρ0 (fun i=>(rs[i]?.map (·.bk.dst)).getD []) (fun _=>true) ops.length t :=
   fun t=>oF fun i hi he=>by rw [hl i hi] at he; cases he
  have e2:∀t,acc κ0 (fun i=>(rs[i]?.map (·.bk.box)).getD []) (fun i=>listed.getD i false) ops.length t=acc κ0 (fun i=>(rs[i]?.map (·.bk.box)).getD []) (fun _=>true) ops.length t :=
   fun t=>oF fun i hi he=>by rw [hl i hi] at he; cases he
  rw [←funext e1,←funext e2]
  exact hs
 have stuck:∀(listed:Array Bool),listed.size=ops.length→Region.ready .any ops.toArray listed=[]→∀i,i<ops.length→listed.getD i false=true:=by
  intro listed aU hr i
  induction i using Nat.strongRecOn with
  | _ i ih =>
   intro hi
   cases hl:listed.getD i false with
   | true=>rfl
   | false =>
    have ho:ops[i]?=some (ops[i]'hi):=List.getElem?_eq_getElem hi
    have:i∈Region.ready .any ops.toArray listed:=(mem_ready aU).2 ⟨_,ho,hl,fun d hd=>ih d (by have:=jL CD ho d hd; omega) (vT i _ ho d hd)⟩
    rw [hr] at this; cases this
 intro fuel
 induction fuel with
 | zero =>
  intro listed a w aU hc kp hs
  have hl:=sx (E:=fun i=>listed.getD i false) (m:=ops.length) (by omega)
  refine ⟨?_,done listed a w hl hs⟩
  refine List.eq_nil_iff_forall_not_mem.2 fun i hi=>?_
  obtain ⟨o,ho,h1,_⟩:=(mem_ready aU).1 hi
  have:listed.getD i false=true:=hl i (List.getElem?_eq_some_iff.1 ho).1
  rw [h1] at this; cases this
 | succ fuel ih =>
  intro listed a w aU hc kp hs
  refine ⟨fun hr=>done listed a w (stuck listed aU hr) hs,fun j hj=>?_⟩
  obtain ⟨o,ho,Hq,KQ⟩:=(mem_ready aU).1 hj
  have uA:j<ops.length:=(List.getElem?_eq_some_iff.1 ho).1
  have Hr:rs[j]?=some (rs[j]'(by omega)):=List.getElem?_eq_getElem (by omega)
  obtain ⟨KR,su⟩:=dk j _ o Hr ho
  have apart:∀(i:Nat) (x:Rec) (ox:Oper),rs[i]?=some x→ops[i]?=some ox→i ≠ j→(i<j∧listed.getD i false=false ∨ j<i∧listed.getD i false=true)→dh ops x (rs[j]'(by omega)) o=true∧dh ops (rs[j]'(by omega)) x ox=true:=by
   intro i x ox hx lJ bJ pn
   rcases pn with ⟨aK,Rh⟩ | ⟨aK,Rh⟩
   ·have h1:=jM lT Hr ho
    rw [Nat.zero_add] at h1
    rcases lR h1 hx lJ (by omega) with hr | hr
    ·rw [Nat.zero_add] at hr
     have:listed.getD i false=true:=jN (E:=fun i=>listed.getD i false) kp ho hr KQ (vT j o ho) vT
     rw [Rh] at this; cases this
    ·exact hr
   ·have h1:=jM lT hx lJ
    rw [Nat.zero_add] at h1
    rcases lR h1 Hr ho (by omega) with hr | hr
    ·rw [Nat.zero_add] at hr
     have:listed.getD j false=true:=jN (E:=fun i=>listed.getD i false) kp lJ hr (kp i ox lJ Rh) (vT i ox lJ) vT
     rw [Hq] at this; cases this
    ·exact ⟨hr.2,hr.1⟩
  have kq:∀i,i<ops.length→∃x ox,rs[i]?=some x∧ops[i]?=some ox:=fun i hi=>⟨_,_,List.getElem?_eq_getElem (by omega),List.getElem?_eq_getElem hi⟩
  have vU:∀t,(∀(x:Rec) (ox:Oper),dh ops x (rs[j]'(by omega)) o=true→t ∉ keys x.bk.dst)→acc ρ0 (fun i=>(rs[i]?.map (·.bk.dst)).getD []) (fun i=>listed.getD i false) ops.length t=acc ρ0 (fun i=>(rs[i]?.map (·.bk.dst)).getD []) (fun _=>true) j t:=by
   intro t ht
   refine qU (by omega) (fun i hi he=>?_) (fun i EF hi he=>?_)
   ·obtain ⟨x,ox,hx,lJ⟩:=kq i (by omega)
    simp only [hx,Option.map_some,Option.getD_some]
    exact ht x ox (apart i x ox hx lJ (by omega) (.inl ⟨hi,he⟩)).1
   ·rcases Nat.lt_or_eq_of_le EF with aK | rfl
    ·obtain ⟨x,ox,hx,lJ⟩:=kq i hi
     simp only [hx,Option.map_some,Option.getD_some]
     exact ht x ox (apart i x ox hx lJ (by omega) (.inr ⟨aK,he⟩)).1
    ·rw [Hq] at he; cases he
  have gD:∀t,(∀(x:Rec) (ox:Oper),dh ops x (rs[j]'(by omega)) o=true→t ∉ keys x.bk.box)→acc κ0 (fun i=>(rs[i]?.map (·.bk.box)).getD []) (fun i=>listed.getD i false) ops.length t=acc κ0 (fun i=>(rs[i]?.map (·.bk.box)).getD []) (fun _=>true) j t:=by
   intro t ht
   refine qU (by omega) (fun i hi he=>?_) (fun i EF hi he=>?_)
   ·obtain ⟨x,ox,hx,lJ⟩:=kq i (by omega)
    simp only [hx,Option.map_some,Option.getD_some]
    exact ht x ox (apart i x ox hx lJ (by omega) (.inl ⟨hi,he⟩)).1
   ·rcases Nat.lt_or_eq_of_le EF with aK | rfl
    ·obtain ⟨x,ox,hx,lJ⟩:=kq i hi
     simp only [hx,Option.map_some,Option.getD_some]
     exact ht x ox (apart i x ox hx lJ (by omega) (.inr ⟨aK,he⟩)).1
    ·rw [Hq] at he; cases he
  have x6:∀{x y:Rec} {oy:Oper},dh ops x y oy=true→jm (iE x.bk.dst) (oy.looksAt ops.toArray)=true∧jm (iE x.bk.dst) (iE y.bk.dst)=true∧jm (dY x.bk.box) y.rows=true∧jm (dY x.bk.box) y.bk.reads=true∧jm (dY x.bk.box) (dY y.bk.box)=true:=by
   intro x y oy h
   simp only [dh,Bool.and_eq_true] at h
   exact ⟨h.1.1.1.1,h.1.1.1.2,h.1.1.2,h.1.2,h.2⟩
  have ax:Ca ops o (acc ρ0 (fun i=>(rs[i]?.map (·.bk.dst)).getD []) (fun _=>true) j) (acc ρ0 (fun i=>(rs[i]?.map (·.bk.dst)).getD []) (fun i=>listed.getD i false) ops.length)
    (acc κ0 (fun i=>(rs[i]?.map (·.bk.box)).getD []) (fun _=>true) j) (acc κ0 (fun i=>(rs[i]?.map (·.bk.box)).getD []) (fun i=>listed.getD i false) ops.length) (rs[j]'(by omega)).bk.reads (rs[j]'(by omega)).bk.box:=by
   refine ⟨fun t ht=>vU t fun x ox h hm=>?_,fun i hi=>gD i fun x ox h hm=>?_,fun i hi=>gD i fun x ox h hm=>?_,fun i b hb=>gD i fun x ox h hm=>?_⟩
   ·exact cJ (x6 h).1 t (by rw [kY]; exact hm) ht
   ·exact cJ (x6 h).2.2.1 i (by rw [c6]; exact hm) (by rw [KR]; exact hi)
   ·exact cJ (x6 h).2.2.2.1 i (by rw [c6]; exact hm) hi
   ·exact cJ (x6 h).2.2.2.2 i (by rw [c6]; exact hm) (by rw [c6]; exact List.mem_map.2 ⟨(i,b),hb,rfl⟩)
  have bj:=su F hF _ _ ax g a w ⟨dq,Ax⟩ hs
  have jn:(fun i=>(listed.setIfInBounds j true).getD i false)=kV (fun i=>listed.getD i false) j:=by
   funext i
   simp only [kV,Array.getD_eq_getD_getElem?]
   by_cases e:i=j
   ·subst e; simp [aU,uA]
   ·rw [if_neg e,Array.getElem?_setIfInBounds_ne (fun h=>e h.symm)]
  have next:∀a' w',St g n (az (acc ρ0 (fun i=>(rs[i]?.map (·.bk.dst)).getD []) (fun i=>listed.getD i false) ops.length) (rs[j]'(by omega)).bk.dst) (az (acc κ0 (fun i=>(rs[i]?.map (·.bk.box)).getD []) (fun i=>listed.getD i false) ops.length) (rs[j]'(by omega)).bk.box) a' w' →
    wpAnyIn F 0 P .any ops.toArray Q fuel (listed.setIfInBounds j true) a' w':=by
   intro a' w' dI
   refine ih _ a' w' (by simp [aU]) ?_ ?_ ?_
   ·rw [jn]
    have:=vQ (E:=fun i=>listed.getD i false) Hq uA
    omega
   ·have KT:∀i,(listed.setIfInBounds j true).getD i false=kV (fun i=>listed.getD i false) j i:=fun i=>congrFun jn i
    intro i o' iC hi d hd
    rw [KT] at hi ⊢
    have up:listed.getD d false=true→kV (fun i=>listed.getD i false) j d=true:=fun h=>by
     by_cases e:d=j
     ·subst e; exact sw _ _
     ·rw [hP _ e]; exact h
    by_cases e:i=j
    ·subst e
     rw [ho] at iC; injection iC with iC; subst iC
     exact up (KQ d hd)
    ·rw [hP _ e] at hi
     exact up (kp i o' iC hi d hd)
   ·rw [jn]
    rw [qV (f:=ρ0) Hq uA (fun i h1 h2 h3 t ht=>?_),qV (f:=κ0) Hq uA (fun i h1 h2 h3 t ht=>?_)]
    ·simpa [Hr] using dI
    ·obtain ⟨x,ox,hx,lJ⟩:=kq i h2
     simp only [Hr,hx,Option.map_some,Option.getD_some] at ht ⊢
     have h5:=cJ (x6 (apart i x ox hx lJ (by omega) (.inr ⟨h1,h3⟩)).2).2.2.2.2 t (by rw [c6]; exact ht)
     rwa [c6] at h5
    ·obtain ⟨x,ox,hx,lJ⟩:=kq i h2
     simp only [Hr,hx,Option.map_some,Option.getD_some] at ht ⊢
     have h5:=cJ (x6 (apart i x ox hx lJ (by omega) (.inr ⟨h1,h3⟩)).2).2.1 t (by rw [kY]; exact ht)
     rwa [kY] at h5
  unfold wpOpIn
  rw [show ops.toArray[j]?=some o by simpa using ho]
  unfold kG at bj
  simp only
  split at bj
  ·rename_i hw; rw [if_pos hw]; exact qT next bj
  ·rename_i hw; rw [if_neg hw]; exact ⟨fun f _=>hF.fn f,next _ _ bj⟩
theorem Fg (Ax:C g) {F:Fence} (hF:gr F) {lo:Nat} (dq:g.m≤lo) {ρ0:Nat→AV} {κ0:Nat→ar} {rs:List Rec} {Q:Exit→Act→World→Prop} {sf:List (Nat × Nat)} {ZM:Nat} (lT:vR ops rs sf ZM=true) (hlen:rs.length=ops.length)
  (dk:∀i r o,rs[i]?=some r→ops[i]?=some o→r.rows=fF (acc ρ0 (fun i=>(rs[i]?.map (·.bk.dst)).getD []) (fun _=>true) i) (acc κ0 (fun i=>(rs[i]?.map (·.bk.box)).getD []) (fun _=>true) i) o∧Kj P C ops n lo o (acc ρ0 (fun i=>(rs[i]?.map (·.bk.dst)).getD []) (fun _=>true) i) (acc κ0 (fun i=>(rs[i]?.map (·.bk.box)).getD []) (fun _=>true) i) r.bk)
  (TQ:∀j x,(j,x)∈sf→∀r o,rs[j]?=some r→ops[j]?=some o→r.rows=fF (CB ρ0 rs j) (yi κ0 rs ops.length j x) o∧Kj P C ops n lo o (CB ρ0 rs j) (yi κ0 rs ops.length j x) r.bk)
  (hQ:∀a w,St g n (acc ρ0 (fun i=>(rs[i]?.map (·.bk.dst)).getD []) (fun _=>true) ops.length) (acc κ0 (fun i=>(rs[i]?.map (·.bk.box)).getD []) (fun _=>true) ops.length) a w→Q .normal a w) :
  ∀(fuel:Nat) (listed:Array Bool) (a:Act) (w:World),listed.size=ops.length→qX (fun i=>listed.getD i false) ops.length≤fuel →
   (∀i o,ops[i]?=some o→listed.getD i false=true→∀d,d∈qR o→listed.getD d false=true) →
   St g n (acc ρ0 (fun i=>(rs[i]?.map (·.bk.dst)).getD []) (fun i=>listed.getD i false) ops.length) (acc κ0 (fun i=>(rs[i]?.map (·.bk.box)).getD []) (fun i=>listed.getD i false) ops.length) a w →
   wpAnyIn F 0 P .any ops.toArray Q fuel listed a w:=by
 simp only [vR,Bool.and_eq_true] at lT
 obtain ⟨⟨⟨CD,lT⟩,c9⟩,_⟩:=lT
 have vT:∀(q:Nat) (o:Oper),ops[q]?=some o→∀d,d∈qR o→d<ops.length:=fun q o ho d hd=>by
  have h1:=jL CD ho d hd
  have h2:=(List.getElem?_eq_some_iff.1 ho).1
  omega
 have done:∀(listed:Array Bool) (a:Act) (w:World),(∀i,i<ops.length→listed.getD i false=true) →
   St g n (acc ρ0 (fun i=>(rs[i]?.map (·.bk.dst)).getD []) (fun i=>listed.getD i false) ops.length) (acc κ0 (fun i=>(rs[i]?.map (·.bk.box)).getD []) (fun i=>listed.getD i false) ops.length) a w→Q .normal a w:=by
  intro listed a w hl hs
  refine hQ a w ?_
  have e1:∀t,acc ρ0 (fun i=>(rs[i]?.map (·.bk.dst)).getD []) (fun i=>listed.getD i false) ops.length t=acc ρ0 (fun i=>(rs[i]?.map (·.bk.dst)).getD []) (fun _=>true) ops.length t :=
   fun t=>oF fun i hi he=>by rw [hl i hi] at he; cases he
  have e2:∀t,acc κ0 (fun i=>(rs[i]?.map (·.bk.box)).getD []) (fun i=>listed.getD i false) ops.length t=acc κ0 (fun i=>(rs[i]?.map (·.bk.box)).getD []) (fun _=>true) ops.length t :=
   fun t=>oF fun i hi he=>by rw [hl i hi] at he; cases he
  rw [←funext e1,←funext e2]
  exact hs
 have stuck:∀(listed:Array Bool),listed.size=ops.length→Region.ready .any ops.toArray listed=[]→∀i,i<ops.length→listed.getD i false=true:=by
  intro listed aU hr i
  induction i using Nat.strongRecOn with
  | _ i ih =>
   intro hi
   cases hl:listed.getD i false with
   | true=>rfl
   | false =>
    have ho:ops[i]?=some (ops[i]'hi):=List.getElem?_eq_getElem hi
    have:i∈Region.ready .any ops.toArray listed:=(mem_ready aU).2 ⟨_,ho,hl,fun d hd=>ih d (by have:=jL CD ho d hd; omega) (vT i _ ho d hd)⟩
    rw [hr] at this; cases this
 intro fuel
 induction fuel with
 | zero =>
  intro listed a w aU hc kp hs
  have hl:=sx (E:=fun i=>listed.getD i false) (m:=ops.length) (by omega)
  refine ⟨?_,done listed a w hl hs⟩
  refine List.eq_nil_iff_forall_not_mem.2 fun i hi=>?_
  obtain ⟨o,ho,h1,_⟩:=(mem_ready aU).1 hi
  have:listed.getD i false=true:=hl i (List.getElem?_eq_some_iff.1 ho).1
  rw [h1] at this; cases this
 | succ fuel ih =>
  intro listed a w aU hc kp hs
  refine ⟨fun hr=>done listed a w (stuck listed aU hr) hs,fun j hj=>?_⟩
  obtain ⟨o,ho,Hq,KQ⟩:=(mem_ready aU).1 hj
  have uA:j<ops.length:=(List.getElem?_eq_some_iff.1 ho).1
  have Hr:rs[j]?=some (rs[j]'(by omega)):=List.getElem?_eq_getElem (by omega)
  obtain ⟨KR,su⟩:=dk j _ o Hr ho
  have x6:∀{x y:Rec} {oy:Oper},dh ops x y oy=true→jm (iE x.bk.dst) (oy.looksAt ops.toArray)=true∧jm (iE x.bk.dst) (iE y.bk.dst)=true∧jm (dY x.bk.box) y.rows=true∧jm (dY x.bk.box) y.bk.reads=true∧jm (dY x.bk.box) (dY y.bk.box)=true:=by
   intro x y oy h
   simp only [dh,Bool.and_eq_true] at h
   exact ⟨h.1.1.1.1,h.1.1.1.2,h.1.1.2,h.1.2,h.2⟩
  have VQ:∀{x y:Rec} {oy:Oper},dh ops x y oy=true→nw ops x y oy=true:=by
   intro x y oy h
   have:=x6 h
   simp only [nw,Bool.and_eq_true]
   exact ⟨this.1,this.2.1⟩
  have TG:∀{y:Rec},yV y=true→y.bk.box=[]:=by
   intro y h
   unfold yV at h
   split at h
   ·assumption
   ·cases h
  have Tl:∀(i:Nat) (x:Rec) (ox:Oper),rs[i]?=some x→ops[i]?=some ox→i ≠ j→(i<j∧listed.getD i false=false ∨ j<i∧listed.getD i false=true) →
    nw ops x (rs[j]'(by omega)) o=true∧jm (iE (rs[j]'(by omega)).bk.dst) (iE x.bk.dst)=true∧jm (dY (rs[j]'(by omega)).bk.box) (dY x.bk.box)=true∧(dh ops x (rs[j]'(by omega)) o=true ∨ yh j i sf=true):=by
   intro i x ox hx lJ bJ pn
   rcases pn with ⟨aK,Rh⟩ | ⟨aK,Rh⟩
   ·have h1:=iX lT Hr ho
    rw [Nat.zero_add] at h1
    rcases kJ h1 hx lJ (by omega) with hr | ⟨h2,h3⟩ | ⟨h2,h3,h4,h5⟩ | ⟨h2,h3,h4,h5⟩
    ·rw [Nat.zero_add] at hr
     have:listed.getD i false=true:=jN (E:=fun i=>listed.getD i false) kp ho hr KQ (vT j o ho) vT
     rw [Rh] at this; cases this
    ·exact ⟨VQ h2,(x6 h3).2.1,(x6 h3).2.2.2.2,.inl h2⟩
    ·rw [Nat.zero_add] at h2
     exact ⟨h3,(x6 h5).2.1,(x6 h5).2.2.2.2,.inr h2⟩
    ·simp only [nw,Bool.and_eq_true] at h3
     exact ⟨VQ h5,h3.2,by rw [TG h4]; exact vS _,.inl h5⟩
   ·have h1:=iX lT hx lJ
    rw [Nat.zero_add] at h1
    rcases kJ h1 Hr ho (by omega) with hr | ⟨h2,h3⟩ | ⟨h2,h3,h4,h5⟩ | ⟨h2,h3,h4,h5⟩
    ·rw [Nat.zero_add] at hr
     have:listed.getD j false=true:=jN (E:=fun i=>listed.getD i false) kp lJ hr (kp i ox lJ Rh) (vT i ox lJ) vT
     rw [Hq] at this; cases this
    ·exact ⟨VQ h3,(x6 h2).2.1,(x6 h2).2.2.2.2,.inl h3⟩
    ·simp only [nw,Bool.and_eq_true] at h3
     exact ⟨VQ h5,h3.2,by rw [TG h4]; exact vS _,.inl h5⟩
    ·rw [Nat.zero_add] at h2
     exact ⟨h3,(x6 h5).2.1,(x6 h5).2.2.2.2,.inr h2⟩
  have kq:∀i,i<ops.length→∃x ox,rs[i]?=some x∧ops[i]?=some ox:=fun i hi=>⟨_,_,List.getElem?_eq_getElem (by omega),List.getElem?_eq_getElem hi⟩
  have vU:∀t,(∀(x:Rec),nw ops x (rs[j]'(by omega)) o=true→t ∉ keys x.bk.dst)→acc ρ0 (fun i=>(rs[i]?.map (·.bk.dst)).getD []) (fun i=>listed.getD i false) ops.length t=acc ρ0 (fun i=>(rs[i]?.map (·.bk.dst)).getD []) (fun _=>true) j t:=by
   intro t ht
   refine qU (by omega) (fun i hi he=>?_) (fun i EF hi he=>?_)
   ·obtain ⟨x,ox,hx,lJ⟩:=kq i (by omega)
    simp only [hx,Option.map_some,Option.getD_some]
    exact ht x (Tl i x ox hx lJ (by omega) (.inl ⟨hi,he⟩)).1
   ·rcases Nat.lt_or_eq_of_le EF with aK | rfl
    ·obtain ⟨x,ox,hx,lJ⟩:=kq i hi
     simp only [hx,Option.map_some,Option.getD_some]
     exact ht x (Tl i x ox hx lJ (by omega) (.inr ⟨aK,he⟩)).1
    ·rw [Hq] at he; cases he
  have bC:∀t,t∈o.looksAt ops.toArray→acc ρ0 (fun i=>(rs[i]?.map (·.bk.dst)).getD []) (fun i=>listed.getD i false) ops.length t=acc ρ0 (fun i=>(rs[i]?.map (·.bk.dst)).getD []) (fun _=>true) j t:=fun t ht=>vU t fun x h hm=>by
   simp only [nw,Bool.and_eq_true] at h
   exact cJ h.1 t (by rw [kY]; exact hm) ht
  have bj:kG P F ops.toArray o a w fun a' w'=>St g n (az (acc ρ0 (fun i=>(rs[i]?.map (·.bk.dst)).getD []) (fun i=>listed.getD i false) ops.length) (rs[j]'(by omega)).bk.dst) (az (acc κ0 (fun i=>(rs[i]?.map (·.bk.box)).getD []) (fun i=>listed.getD i false) ops.length) (rs[j]'(by omega)).bk.box) a' w':=by
   by_cases hex:∃q,yh j q sf=true∧q ≠ j∧q<ops.length∧(q<j∧listed.getD q false=false ∨ j<q∧listed.getD q false=true)
   ·-- with a harmless writer out of ZN place
    obtain ⟨q,hq,hqj,KU,ZO⟩:=hex
    obtain ⟨Ri,TR⟩:=TQ j q (qY hq) _ o Hr ho
    have gD:∀t,(∀(x:Rec) (ox:Oper),dh ops x (rs[j]'(by omega)) o=true→t ∉ keys x.bk.box)→acc κ0 (fun i=>(rs[i]?.map (·.bk.box)).getD []) (fun i=>listed.getD i false) ops.length t=yi κ0 rs ops.length j q t:=by
     intro t ht
     refine yW fun i hi bJ=>?_
     obtain ⟨x,ox,hx,lJ⟩:=kq i hi
     simp only [hx,Option.map_some,Option.getD_some]
     by_cases WG:i=q
     ·exfalso
      subst WG
      apply bJ
      simp only [WE,Nat.beq_refl,cond_true]
      rcases ZO with ⟨h1,h2⟩ | ⟨h1,h2⟩
      ·rw [h2,show Nat.blt i j=true by rw [Nat.blt_eq]; exact h1]; rfl
      ·rw [h2,show Nat.blt i j=false by cases hb:Nat.blt i j with | false=>rfl | true=>rw [Nat.blt_eq] at hb; omega]; rfl
     ·have hb:Nat.beq i q=false:=by cases hb:Nat.beq i q with | false=>rfl | true=>exact absurd (Nat.eq_of_beq_eq_true hb) WG
      simp only [WE,hb,cond_false] at bJ
      by_cases He:i=j
      ·subst He
       exfalso
       apply bJ
       rw [Hq]
       cases cy:Nat.blt i i with | false=>rfl | true=>rw [Nat.blt_eq] at cy; omega
      ·have pn:i<j∧listed.getD i false=false ∨ j<i∧listed.getD i false=true:=by
        rcases Nat.lt_or_gt_of_ne He with h | h
        ·left
         refine ⟨h,?_⟩
         rw [show Nat.blt i j=true by rw [Nat.blt_eq]; exact h] at bJ
         simpa using bJ
        ·right
         refine ⟨h,?_⟩
         rw [show Nat.blt i j=false by cases hb:Nat.blt i j with | false=>rfl | true=>rw [Nat.blt_eq] at hb; omega] at bJ
         simpa using bJ
       rcases (Tl i x ox hx lJ He pn).2.2.2 with h | h
       ·exact ht x ox h
       ·exact absurd (tJ c9 (qY h) (qY hq)) WG
    refine TR F hF _ _ ⟨bC,fun i hi=>gD i fun x ox h hm=>?_,fun i hi=>gD i fun x ox h hm=>?_,fun i b hb=>gD i fun x ox h hm=>?_⟩ g a w ⟨dq,Ax⟩ hs
    ·exact cJ (x6 h).2.2.1 i (by rw [c6]; exact hm) (by rw [Ri]; exact hi)
    ·exact cJ (x6 h).2.2.2.1 i (by rw [c6]; exact hm) hi
    ·exact cJ (x6 h).2.2.2.2 i (by rw [c6]; exact hm) (by rw [c6]; exact List.mem_map.2 ⟨(i,b),hb,rfl⟩)
   ·have full:∀(i:Nat) (x:Rec) (ox:Oper),rs[i]?=some x→ops[i]?=some ox→i ≠ j→(i<j∧listed.getD i false=false ∨ j<i∧listed.getD i false=true)→dh ops x (rs[j]'(by omega)) o=true:=by
     intro i x ox hx lJ bJ pn
     rcases (Tl i x ox hx lJ bJ pn).2.2.2 with h | h
     ·exact h
     ·exact absurd ⟨i,h,bJ,(List.getElem?_eq_some_iff.1 lJ).1,pn⟩ hex
    have gD:∀t,(∀(x:Rec) (ox:Oper),dh ops x (rs[j]'(by omega)) o=true→t ∉ keys x.bk.box)→acc κ0 (fun i=>(rs[i]?.map (·.bk.box)).getD []) (fun i=>listed.getD i false) ops.length t=acc κ0 (fun i=>(rs[i]?.map (·.bk.box)).getD []) (fun _=>true) j t:=by
     intro t ht
     refine qU (by omega) (fun i hi he=>?_) (fun i EF hi he=>?_)
     ·obtain ⟨x,ox,hx,lJ⟩:=kq i (by omega)
      simp only [hx,Option.map_some,Option.getD_some]
      exact ht x ox (full i x ox hx lJ (by omega) (.inl ⟨hi,he⟩))
     ·rcases Nat.lt_or_eq_of_le EF with aK | rfl
      ·obtain ⟨x,ox,hx,lJ⟩:=kq i hi
       simp only [hx,Option.map_some,Option.getD_some]
       exact ht x ox (full i x ox hx lJ (by omega) (.inr ⟨aK,he⟩))
      ·rw [Hq] at he; cases he
    refine su F hF _ _ ⟨bC,fun i hi=>gD i fun x ox h hm=>?_,fun i hi=>gD i fun x ox h hm=>?_,fun i b hb=>gD i fun x ox h hm=>?_⟩ g a w ⟨dq,Ax⟩ hs
    ·exact cJ (x6 h).2.2.1 i (by rw [c6]; exact hm) (by rw [KR]; exact hi)
    ·exact cJ (x6 h).2.2.2.1 i (by rw [c6]; exact hm) hi
    ·exact cJ (x6 h).2.2.2.2 i (by rw [c6]; exact hm) (by rw [c6]; exact List.mem_map.2 ⟨(i,b),hb,rfl⟩)
  have jn:(fun i=>(listed.setIfInBounds j true).getD i false)=kV (fun i=>listed.getD i false) j:=by
   funext i
   simp only [kV,Array.getD_eq_getD_getElem?]
   by_cases e:i=j
   ·subst e; simp [aU,uA]
   ·rw [if_neg e,Array.getElem?_setIfInBounds_ne (fun h=>e h.symm)]
  have next:∀a' w',St g n (az (acc ρ0 (fun i=>(rs[i]?.map (·.bk.dst)).getD []) (fun i=>listed.getD i false) ops.length) (rs[j]'(by omega)).bk.dst) (az (acc κ0 (fun i=>(rs[i]?.map (·.bk.box)).getD []) (fun i=>listed.getD i false) ops.length) (rs[j]'(by omega)).bk.box) a' w' →
    wpAnyIn F 0 P .any ops.toArray Q fuel (listed.setIfInBounds j true) a' w':=by
   intro a' w' dI
   refine ih _ a' w' (by simp [aU]) ?_ ?_ ?_
   ·rw [jn]
    have:=vQ (E:=fun i=>listed.getD i false) Hq uA
    omega
   ·have KT:∀i,(listed.setIfInBounds j true).getD i false=kV (fun i=>listed.getD i false) j i:=fun i=>congrFun jn i
    intro i o' iC hi d hd
    rw [KT] at hi ⊢
    have up:listed.getD d false=true→kV (fun i=>listed.getD i false) j d=true:=fun h=>by
     by_cases e:d=j
     ·subst e; exact sw _ _
     ·rw [hP _ e]; exact h
    by_cases e:i=j
    ·subst e
     rw [ho] at iC; injection iC with iC; subst iC
     exact up (KQ d hd)
    ·rw [hP _ e] at hi
     exact up (kp i o' iC hi d hd)
   ·rw [jn]
    rw [qV (f:=ρ0) Hq uA (fun i h1 h2 h3 t ht=>?_),qV (f:=κ0) Hq uA (fun i h1 h2 h3 t ht=>?_)]
    ·simpa [Hr] using dI
    ·obtain ⟨x,ox,hx,lJ⟩:=kq i h2
     simp only [Hr,hx,Option.map_some,Option.getD_some] at ht ⊢
     have h5:=cJ (Tl i x ox hx lJ (by omega) (.inr ⟨h1,h3⟩)).2.2.1 t (by rw [c6]; exact ht)
     rwa [c6] at h5
    ·obtain ⟨x,ox,hx,lJ⟩:=kq i h2
     simp only [Hr,hx,Option.map_some,Option.getD_some] at ht ⊢
     have h5:=cJ (Tl i x ox hx lJ (by omega) (.inr ⟨h1,h3⟩)).2.1 t (by rw [kY]; exact ht)
     rwa [kY] at h5
  unfold wpOpIn
  rw [show ops.toArray[j]?=some o by simpa using ho]
  unfold kG at bj
  simp only
  split at bj
  ·rename_i hw; rw [if_pos hw]; exact qT next bj
  ·rename_i hw; rw [if_neg hw]; exact ⟨fun f _=>hF.fn f,next _ _ bj⟩
end
end Go.TM
