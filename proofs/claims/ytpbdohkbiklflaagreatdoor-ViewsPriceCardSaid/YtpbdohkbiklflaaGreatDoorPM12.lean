import Derived.Test.YtpbdohkbiklflaaGreatDoorPM11
set_option linter.unusedVariables false
set_option linter.unusedSimpArgs false
set_option linter.unusedSectionVars false
namespace Go.TM
open Go.RowKit
variable [ct]
theorem cA:∀{l r:List Nat},iU l r=true→∀x,x∈l→x ∉ r
 | [],r,_,x,h=>by simp at h
 | y::l,r,h,x,hx=>by
  simp only [iU,Bool.and_eq_true,Bool.not_eq_true'] at h
  rcases List.mem_cons.1 hx with rfl | hx
  ·exact eu h.1
  ·exact cA h.2 x hx
theorem kG (l:List (Nat × AV)):ib l=keys l:=by
 induction l with
 | nil=>rfl
 | cons p r ih=>simp [ib,keys,ih]
theorem cY (l:List (Nat × ao)):dQ l=keys l:=by
 induction l with
 | nil=>rfl
 | cons p r ih=>simp [dQ,keys,ih]
def qj (E:Nat→Bool):Nat→Nat
 | 0=>0
 | m+1=>(if E m then 0 else 1)+qj E m
theorem rG (E:Nat→Bool) (j:Nat):kE E j j=true:=by simp [kE]
theorem gN (E:Nat→Bool) {i j:Nat} (h:i ≠ j):kE E j i=E i:=by simp [kE,h]
theorem uR {E:Nat→Bool} {j:Nat} (hj:E j=false):∀{m:Nat},j<m→qj (kE E j) m+1=qj E m
 | 0,h=>by omega
 | m+1,h=>by
  rcases Nat.lt_or_ge j m with aJ | dw
  ·have ih:=uR hj aJ
   have e:=gN E (i:=m) (j:=j) (by omega)
   simp only [qj,e]
   omega
  ·have:j=m:=by omega
   subst this
   have low:∀q,q≤j→qj (kE E j) q=qj E q:=by
    intro q
    induction q with
    | zero=>intro _; rfl
    | succ q ih =>
     intro hq
     have e:=gN E (i:=q) (j:=j) (by omega)
     simp only [qj,e,ih (by omega)]
   have:=low j (Nat.le_refl _)
   simp only [qj,rG,hj,if_true,Bool.false_eq_true,if_false]
   omega
theorem rH {E:Nat→Bool}:∀{m:Nat},qj E m=0→∀i,i<m→E i=true
 | 0,_,i,hi=>by omega
 | m+1,h,i,hi=>by
  simp only [qj] at h
  rcases Nat.lt_or_ge i m with aJ | dw
  ·exact rH (by omega) i aJ
  ·have:i=m:=by omega
   subst this
   cases he:E i with
   | true=>rfl
   | false=>simp [he] at h
section
variable {ops:List Oper}
theorem ju:∀{l:List Oper} {s:Nat},uN s l=true→∀{i:Nat} {o:Oper},l[i]?=some o→∀d,d∈qc o→d<s+i
 | [],s,_,i,o,h,_,_=>by simp at h
 | x::l,s,he,i,o,h,d,hd=>by
  simp only [uN,Bool.and_eq_true,List.all_eq_true] at he
  cases i with
  | zero=>simp at h; subst h; have:=he.1 d hd; rw [Nat.blt_eq] at this; omega
  | succ i=>have:=ju he.2 (i:=i) (by simpa using h) d hd; omega
theorem lz {rs:List Rec} {j:Nat} {y:Rec} {oy:Oper}:∀{xr:List Rec} {xo:List Oper} {s:Nat},qd ops rs j y oy s xr xo=true→∀{i:Nat} {x:Rec} {ox:Oper},xr[i]?=some x→xo[i]?=some ox→s+i<j →
  mP ops ops.length (s+i) j=true ∨ (da ops x y oy=true∧da ops y x ox=true)
 | [],xo,s,_,i,x,ox,h,_,_=>by simp at h
 | _::_,[],s,_,i,x,ox,_,h,_=>by simp at h
 | a::xr,b::xo,s,hh,i,x,ox,h1,h2,aJ=>by
  simp only [qd,Bool.and_eq_true] at hh
  cases i with
  | zero =>
   simp at h1 h2
   subst h1; subst h2
   have:=hh.1
   rw [show Nat.blt s j=true by rw [Nat.blt_eq]; omega] at this
   simpa using this
  | succ i =>
   have:=lz hh.2 (i:=i) (by simpa using h1) (by simpa using h2) (by omega)
   rw [show s+(i+1)=s+1+i by omega]; exact this
theorem jv {rs:List Rec}:∀{yr:List Rec} {yo:List Oper} {s:Nat},nV ops rs s yr yo=true→∀{j:Nat} {y:Rec} {oy:Oper},yr[j]?=some y→yo[j]?=some oy →
  qd ops rs (s+j) y oy 0 rs ops=true
 | [],yo,s,_,j,y,oy,h,_=>by simp at h
 | _::_,[],s,_,j,y,oy,_,h=>by simp at h
 | a::yr,b::yo,s,hh,j,y,oy,h1,h2=>by
  simp only [nV,Bool.and_eq_true] at hh
  cases j with
  | zero=>simp at h1 h2; subst h1; subst h2; exact hh.1
  | succ j =>
   have:=jv hh.2 (j:=j) (by simpa using h1) (by simpa using h2)
   rw [show s+(j+1)=s+1+j by omega]; exact this
theorem Bw {o:Oper} {d:Nat}:d∈qc o ↔ ∃e,e∈o.after.toList∧Region.binds .any e=true∧e.on=d:=by
 unfold qc
 rw [List.mem_filterMap]
 constructor
 ·rintro ⟨e,he,h⟩
  cases hb:Region.binds .any e with
  | false=>rw [hb] at h; cases h
  | true=>rw [hb] at h; simp at h; exact ⟨e,he,hb,h⟩
 ·rintro ⟨e,he,hb,rfl⟩
  exact ⟨e,he,by rw [hb]; rfl⟩
theorem jw {E:Nat→Bool} (j6:∀i o,ops[i]?=some o→E i=true→∀d,d∈qc o→E d=true):∀{f i j:Nat} {o:Oper},ops[j]?=some o→mP ops f i j=true→(∀d,d∈qc o→E d=true)→(∀d,d∈qc o→d<ops.length)→(∀(q:Nat) (o:Oper),ops[q]?=some o→∀d,d∈qc o→d<ops.length)→E i=true
 | 0,i,j,o,_,h,_,_,_=>by simp [mP] at h
 | f+1,i,j,o,ho,h,hd,hl,df=>by
  simp only [mP,ho,List.any_eq_true,Bool.or_eq_true] at h
  obtain ⟨d,Uy,h⟩:=h
  rcases h with h | h
  ·have:=Nat.eq_of_beq_eq_true h; subst this; exact hd d Uy
  ·have aJ:=hl d Uy
   have Uz:ops[d]?=some (ops[d]'aJ):=List.getElem?_eq_getElem aJ
   exact jw j6 Uz h (j6 d _ Uz (hd d Uy)) (df d _ Uz) df
theorem mem_ready {listed:Array Bool} {i:Nat} (aT:listed.size=ops.length):i∈Region.ready .any ops.toArray listed ↔ ∃o,ops[i]?=some o∧listed.getD i false=false∧∀d,d∈qc o→listed.getD d false=true:=by
 unfold Region.ready
 rw [List.mem_filter,List.mem_range]
 constructor
 ·rintro ⟨aJ,h⟩
  have gh:i<ops.length:=by simpa using aJ
  have ho:ops[i]?=some (ops[i]'gh):=List.getElem?_eq_getElem gh
  refine ⟨_,ho,?_,?_⟩
  ·simp only [Bool.and_eq_true,Bool.not_eq_true'] at h
   have h1:=h.1
   simp only [Array.getD_eq_getD_getElem?] at h1 ⊢
   rw [Array.getElem?_eq_getElem (by omega)] at h1 ⊢
   simpa using h1
  ·intro d hd
   simp only [Bool.and_eq_true] at h
   have h2:=h.2
   rw [show ops.toArray[i]?=some (ops[i]'gh) by simp] at h2
   simp only [Option.map_some,Option.getD_some,Array.all_eq_true'] at h2
   obtain ⟨e,he,hb,rfl⟩:=Bw.1 hd
   have:=h2 e (by simpa using he)
   simpa [hb] using this
 ·rintro ⟨o,ho,h1,h2⟩
  have aJ:i<ops.length:=(List.getElem?_eq_some_iff.1 ho).1
  refine ⟨by simpa using aJ,?_⟩
  simp only [Bool.and_eq_true,Bool.not_eq_true']
  constructor
  ·simp only [Array.getD_eq_getD_getElem?] at h1 ⊢
   rw [Array.getElem?_eq_getElem (by omega)] at h1 ⊢
   simpa using h1
  ·rw [show ops.toArray[i]?=some o by simpa using ho]
   simp only [Option.map_some,Option.getD_some,Array.all_eq_true']
   intro e he
   cases hb:Region.binds .any e with
   | false=>rfl
   | true =>
    have:=h2 e.on (Bw.2 ⟨e,by simpa using he,hb,rfl⟩)
    simpa using this
end
def mR (ops:List Oper) (x y:Rec) (oy:Oper):Bool:=iU (ib x.bf.dst) (oy.looksAt ops.toArray) && iU (ib x.bf.dst) (ib y.bf.dst)
def xX (y:Rec):Bool:=match y.bf.box with
 | []=>true
 | _=>false
def xj (j i:Nat):List (Nat × Nat)→Bool
 | []=>false
 | p::r=>(Nat.beq p.1 j && Nat.beq p.2 i) || xj j i r
def mS (ops:List Oper) (rs:List Rec) (sf:List (Nat × Nat)) (j:Nat) (y:Rec) (oy:Oper):Nat→List Rec→List Oper→Bool
 | i,x::xr,ox::or=>(bif Nat.blt i j then mP ops ops.length i j || (da ops x y oy && da ops y x ox) || (xj j i sf && mR ops x y oy && xX y && da ops y x ox) || (xj i j sf && mR ops y x ox && xX x && da ops x y oy) else true) && mS ops rs sf j y oy (i+1) xr or
 | _,_,_=>true
def lA (ops:List Oper) (rs:List Rec) (sf:List (Nat × Nat)):Nat→List Rec→List Oper→Bool
 | j,y::yr,oy::or=>mS ops rs sf j y oy 0 rs ops && lA ops rs sf (j+1) yr or
 | _,_,_=>true
def rI:List (Nat × Nat)→List Nat
 | []=>[]
 | p::r=>p.1::rI r
def nY (nx:Nat):List Rec→Bool
 | []=>true
 | r::l=>(dQ r.bf.box).all (fun i=>Nat.blt i nx) && nY nx l
def uS (ops:List Oper) (rs:List Rec) (sf:List (Nat × Nat)) (nx:Nat):Bool:=uN 0 ops && lA ops rs sf 0 rs ops && eI (rI sf) && nY nx rs
def UA (j x:Nat):Nat→Bool:=fun i=>bif Nat.beq i x then !Nat.blt i j else Nat.blt i j
def Bx (ρ0:Nat→AV) (rs:List Rec) (j:Nat):Nat→AV:=acc ρ0 (fun i=>(rs[i]?.map (·.bf.dst)).getD []) (fun _=>true) j
def xl (κ0:Nat→ao) (rs:List Rec) (m j x:Nat):Nat→ao:=acc κ0 (fun i=>(rs[i]?.map (·.bf.box)).getD []) (UA j x) m
def Ph (P:Program) (T:List TI) (ops:List Oper) (n nx:Nat) (o:Oper) (ρ:Nat→AV) (κ:Nat→ao) (bf:jo):Prop:=ef P T→∀C:dy→Prop,cX P C→(∀i,nx≤i→κ i=.none)→Good P C ops n o nx ρ κ fun e _=>e=bf
def By (P:Program) (T:List TI) (ops:List Oper) (n nx:Nat) (ρ0:Nat→AV) (κ0:Nat→ao) (rs:List Rec):List (Nat × Nat)→Prop
 | []=>True
 | (j,x)::r=>(match ops[j]?,rs[j]? with
  | some o,some rc=>rc.rows=fo (Bx ρ0 rs j) (xl κ0 rs ops.length j x) o∧Ph P T ops n nx o (Bx ρ0 rs j) (xl κ0 rs ops.length j x) rc.bf
  | _,_=>False)∧By P T ops n nx ρ0 κ0 rs r
theorem uT:∀l:List Nat,iU l []=true
 | []=>rfl
 | _::l=>by simp only [iU,fU,Bool.not_false,Bool.true_and]; exact uT l
theorem qk {j i:Nat}:∀{sf:List (Nat × Nat)},xj j i sf=true→(j,i)∈sf
 | [],h=>by simp [xj] at h
 | p::r,h=>by
  simp only [xj,Bool.or_eq_true,Bool.and_eq_true] at h
  rcases h with ⟨h1,h2⟩ | h
  ·have e1:=Nat.eq_of_beq_eq_true h1
   have e2:=Nat.eq_of_beq_eq_true h2
   obtain ⟨a,b⟩:=p
   simp only at e1 e2
   subst e1; subst e2
   exact List.mem_cons_self
  ·exact List.mem_cons_of_mem _ (qk h)
theorem o5 {j i:Nat}:∀{sf:List (Nat × Nat)},(j,i)∈sf→j∈rI sf
 | [],h=>by simp at h
 | p::r,h=>by
  simp only [rI]
  rcases List.mem_cons.1 h with rfl | h
  ·exact List.mem_cons_self
  ·exact List.mem_cons_of_mem _ (o5 h)
theorem sQ {j i i':Nat}:∀{sf:List (Nat × Nat)},eI (rI sf)=true→(j,i)∈sf→(j,i')∈sf→i=i'
 | [],_,h,_=>by simp at h
 | p::r,hn,h,h'=>by
  obtain ⟨Hf,Xv⟩:=sR (i:=p.1) (r:=rI r) hn
  rcases List.mem_cons.1 h with h1 | h1
  ·rcases List.mem_cons.1 h' with h2 | h2
   ·have:=h1.trans h2.symm
    injection this
   ·subst h1; exact absurd (o5 h2) Hf
  ·rcases List.mem_cons.1 h' with h2 | h2
   ·subst h2; exact absurd (o5 h1) Hf
   ·exact sQ Xv h1 h2
theorem xY {γ:Type _} {f:Nat→γ} {wr:Nat→List (Nat × γ)} {E E':Nat→Bool} {t:Nat}:∀{len:Nat},(∀i,i<len→E i ≠ E' i→t ∉ keys (wr i))→acc f wr E len t=acc f wr E' len t
 | 0,_=>rfl
 | len+1,h=>by
  have ih:=xY (t:=t) (len:=len) (f:=f) (wr:=wr) (E:=E) (E':=E') fun i hi=>h i (by omega)
  simp only [acc]
  by_cases e:E len=E' len
  ·rw [e]
   cases E' len with
   | false=>simpa using ih
   | true =>
    simp only [if_true]
    by_cases hk:t∈keys (wr len)
    ·have key:∀(l:List (Nat × γ)),t∈keys l→∀g g':Nat→γ,aw g l t=aw g' l t:=by
      intro l
      induction l with
      | nil=>intro hk; simp [keys] at hk
      | cons p r Xw =>
       intro hk g g'
       obtain ⟨i,x⟩:=p
       simp only [aw]
       by_cases e:t=i
       ·subst e; simp
       ·rw [ae _ _ e,ae _ _ e]
        refine Xw ?_ g g'
        simp only [keys,List.map_cons,List.mem_cons] at hk
        rcases hk with rfl | hk
        ·exact absurd rfl e
        ·exact hk
     exact key _ hk _ _
    ·rw [cd _ hk,cd _ hk]; exact ih
  ·have hk:=h len (by omega) e
   have u1:(if E len=true then aw (acc f wr E len) (wr len) else acc f wr E len) t=acc f wr E len t:=by
    split
    ·exact cd _ hk
    ·rfl
   have u2:(if E' len=true then aw (acc f wr E' len) (wr len) else acc f wr E' len) t=acc f wr E' len t:=by
    split
    ·exact cd _ hk
    ·rfl
   rw [u1,u2]; exact ih
theorem kp {ops:List Oper} {rs:List Rec} {sf:List (Nat × Nat)} {j:Nat} {y:Rec} {oy:Oper}:∀{xr:List Rec} {xo:List Oper} {s:Nat},mS ops rs sf j y oy s xr xo=true→∀{i:Nat} {x:Rec} {ox:Oper},xr[i]?=some x→xo[i]?=some ox→s+i<j →
  mP ops ops.length (s+i) j=true ∨ (da ops x y oy=true∧da ops y x ox=true) ∨ (xj j (s+i) sf=true∧mR ops x y oy=true∧xX y=true∧da ops y x ox=true) ∨ (xj (s+i) j sf=true∧mR ops y x ox=true∧xX x=true∧da ops x y oy=true)
 | [],xo,s,_,i,x,ox,h,_,_=>by simp at h
 | _::_,[],s,_,i,x,ox,_,h,_=>by simp at h
 | a::xr,b::xo,s,hh,i,x,ox,h1,h2,aJ=>by
  simp only [mS,Bool.and_eq_true] at hh
  cases i with
  | zero =>
   simp at h1 h2
   subst h1; subst h2
   have:=hh.1
   rw [show Nat.blt s j=true by rw [Nat.blt_eq]; omega] at this
   simp only [cond_true,Bool.or_eq_true,Bool.and_eq_true] at this
   rcases this with ((h | h) | h) | h
   ·exact .inl h
   ·exact .inr (.inl h)
   ·exact .inr (.inr (.inl ⟨h.1.1.1,h.1.1.2,h.1.2,h.2⟩))
   ·exact .inr (.inr (.inr ⟨h.1.1.1,h.1.1.2,h.1.2,h.2⟩))
  | succ i =>
   have:=kp hh.2 (i:=i) (by simpa using h1) (by simpa using h2) (by omega)
   rw [show s+(i+1)=s+1+i by omega]; exact this
theorem iD {ops:List Oper} {rs:List Rec} {sf:List (Nat × Nat)}:∀{yr:List Rec} {yo:List Oper} {s:Nat},lA ops rs sf s yr yo=true→∀{j:Nat} {y:Rec} {oy:Oper},yr[j]?=some y→yo[j]?=some oy →
  mS ops rs sf (s+j) y oy 0 rs ops=true
 | [],yo,s,_,j,y,oy,h,_=>by simp at h
 | _::_,[],s,_,j,y,oy,_,h=>by simp at h
 | a::yr,b::yo,s,hh,j,y,oy,h1,h2=>by
  simp only [lA,Bool.and_eq_true] at hh
  cases j with
  | zero=>simp at h1 h2; subst h1; subst h2; exact hh.1
  | succ j =>
   have:=iD hh.2 (j:=j) (by simpa using h1) (by simpa using h2)
   rw [show s+(j+1)=s+1+j by omega]; exact this
section
variable {P:Program} {C:dy→Prop} {ops:List Oper} {n:Nat} {g:dy}
theorem xZ (zy:C g) {F:Fence} (hF:fT F) {lo:Nat} (dh:g.m≤lo) {ρ0:Nat→AV} {κ0:Nat→ao} {rs:List Rec} {Q:Exit→Act→World→Prop} (lB:rE ops rs=true) (hlen:rs.length=ops.length)
  (df:∀i r o,rs[i]?=some r→ops[i]?=some o→r.rows=fo (acc ρ0 (fun i=>(rs[i]?.map (·.bf.dst)).getD []) (fun _=>true) i) (acc κ0 (fun i=>(rs[i]?.map (·.bf.box)).getD []) (fun _=>true) i) o∧ID P C ops n lo o (acc ρ0 (fun i=>(rs[i]?.map (·.bf.dst)).getD []) (fun _=>true) i) (acc κ0 (fun i=>(rs[i]?.map (·.bf.box)).getD []) (fun _=>true) i) r.bf)
  (hQ:∀a w,St g n (acc ρ0 (fun i=>(rs[i]?.map (·.bf.dst)).getD []) (fun _=>true) ops.length) (acc κ0 (fun i=>(rs[i]?.map (·.bf.box)).getD []) (fun _=>true) ops.length) a w→Q .normal a w) :
  ∀(fuel:Nat) (listed:Array Bool) (a:Act) (w:World),listed.size=ops.length→qj (fun i=>listed.getD i false) ops.length≤fuel →
   (∀i o,ops[i]?=some o→listed.getD i false=true→∀d,d∈qc o→listed.getD d false=true) →
   St g n (acc ρ0 (fun i=>(rs[i]?.map (·.bf.dst)).getD []) (fun i=>listed.getD i false) ops.length) (acc κ0 (fun i=>(rs[i]?.map (·.bf.box)).getD []) (fun i=>listed.getD i false) ops.length) a w →
   wpAnyIn F 0 P .any ops.toArray Q fuel listed a w:=by
 simp only [rE,Bool.and_eq_true] at lB
 obtain ⟨Bz,lB⟩:=lB
 have uU:∀(q:Nat) (o:Oper),ops[q]?=some o→∀d,d∈qc o→d<ops.length:=fun q o ho d hd=>by
  have h1:=ju Bz ho d hd
  have h2:=(List.getElem?_eq_some_iff.1 ho).1
  omega
 have done:∀(listed:Array Bool) (a:Act) (w:World),(∀i,i<ops.length→listed.getD i false=true) →
   St g n (acc ρ0 (fun i=>(rs[i]?.map (·.bf.dst)).getD []) (fun i=>listed.getD i false) ops.length) (acc κ0 (fun i=>(rs[i]?.map (·.bf.box)).getD []) (fun i=>listed.getD i false) ops.length) a w→Q .normal a w:=by
  intro listed a w hl hs
  refine hQ a w ?_
  have e1:∀t,acc ρ0 (fun i=>(rs[i]?.map (·.bf.dst)).getD []) (fun i=>listed.getD i false) ops.length t=acc ρ0 (fun i=>(rs[i]?.map (·.bf.dst)).getD []) (fun _=>true) ops.length t :=
   fun t=>nX fun i hi he=>by rw [hl i hi] at he; cases he
  have e2:∀t,acc κ0 (fun i=>(rs[i]?.map (·.bf.box)).getD []) (fun i=>listed.getD i false) ops.length t=acc κ0 (fun i=>(rs[i]?.map (·.bf.box)).getD []) (fun _=>true) ops.length t :=
   fun t=>nX fun i hi he=>by rw [hl i hi] at he; cases he
  rw [←funext e1,←funext e2]
  exact hs
 have stuck:∀(listed:Array Bool),listed.size=ops.length→Region.ready .any ops.toArray listed=[]→∀i,i<ops.length→listed.getD i false=true:=by
  intro listed aT hr i
  induction i using Nat.strongRecOn with
  | _ i ih =>
   intro hi
   cases hl:listed.getD i false with
   | true=>rfl
   | false =>
    have ho:ops[i]?=some (ops[i]'hi):=List.getElem?_eq_getElem hi
    have:i∈Region.ready .any ops.toArray listed:=(mem_ready aT).2 ⟨_,ho,hl,fun d hd=>ih d (by have:=ju Bz ho d hd; omega) (uU i _ ho d hd)⟩
    rw [hr] at this; cases this
 intro fuel
 induction fuel with
 | zero =>
  intro listed a w aT hc j6 hs
  have hl:=rH (E:=fun i=>listed.getD i false) (m:=ops.length) (by omega)
  refine ⟨?_,done listed a w hl hs⟩
  refine List.eq_nil_iff_forall_not_mem.2 fun i hi=>?_
  obtain ⟨o,ho,h1,_⟩:=(mem_ready aT).1 hi
  have:listed.getD i false=true:=hl i (List.getElem?_eq_some_iff.1 ho).1
  rw [h1] at this; cases this
 | succ fuel ih =>
  intro listed a w aT hc j6 hs
  refine ⟨fun hr=>done listed a w (stuck listed aT hr) hs,fun j hj=>?_⟩
  obtain ⟨o,ho,FR,Jc⟩:=(mem_ready aT).1 hj
  have xc:j<ops.length:=(List.getElem?_eq_some_iff.1 ho).1
  have FT:rs[j]?=some (rs[j]'(by omega)):=List.getElem?_eq_getElem (by omega)
  obtain ⟨Jd,rF⟩:=df j _ o FT ho
  have apart:∀(i:Nat) (x:Rec) (ox:Oper),rs[i]?=some x→ops[i]?=some ox→i ≠ j→(i<j∧listed.getD i false=false ∨ j<i∧listed.getD i false=true)→da ops x (rs[j]'(by omega)) o=true∧da ops (rs[j]'(by omega)) x ox=true:=by
   intro i x ox hx lk bD oF
   rcases oF with ⟨aJ,Pj⟩ | ⟨aJ,Pj⟩
   ·have h1:=jv lB FT ho
    rw [Nat.zero_add] at h1
    rcases lz h1 hx lk (by omega) with hr | hr
    ·rw [Nat.zero_add] at hr
     have:listed.getD i false=true:=jw (E:=fun i=>listed.getD i false) j6 ho hr Jc (uU j o ho) uU
     rw [Pj] at this; cases this
    ·exact hr
   ·have h1:=jv lB hx lk
    rw [Nat.zero_add] at h1
    rcases lz h1 FT ho (by omega) with hr | hr
    ·rw [Nat.zero_add] at hr
     have:listed.getD j false=true:=jw (E:=fun i=>listed.getD i false) j6 lk hr (j6 i ox lk Pj) (uU i ox lk) uU
     rw [FR] at this; cases this
    ·exact ⟨hr.2,hr.1⟩
  have j7:∀i,i<ops.length→∃x ox,rs[i]?=some x∧ops[i]?=some ox:=fun i hi=>⟨_,_,List.getElem?_eq_getElem (by omega),List.getElem?_eq_getElem hi⟩
  have uV:∀t,(∀(x:Rec) (ox:Oper),da ops x (rs[j]'(by omega)) o=true→t ∉ keys x.bf.dst)→acc ρ0 (fun i=>(rs[i]?.map (·.bf.dst)).getD []) (fun i=>listed.getD i false) ops.length t=acc ρ0 (fun i=>(rs[i]?.map (·.bf.dst)).getD []) (fun _=>true) j t:=by
   intro t ht
   refine qg (by omega) (fun i hi he=>?_) (fun i Dt hi he=>?_)
   ·obtain ⟨x,ox,hx,lk⟩:=j7 i (by omega)
    simp only [hx,Option.map_some,Option.getD_some]
    exact ht x ox (apart i x ox hx lk (by omega) (.inl ⟨hi,he⟩)).1
   ·rcases Nat.lt_or_eq_of_le Dt with aJ | rfl
    ·obtain ⟨x,ox,hx,lk⟩:=j7 i hi
     simp only [hx,Option.map_some,Option.getD_some]
     exact ht x ox (apart i x ox hx lk (by omega) (.inr ⟨aJ,he⟩)).1
    ·rw [FR] at he; cases he
  have gj:∀t,(∀(x:Rec) (ox:Oper),da ops x (rs[j]'(by omega)) o=true→t ∉ keys x.bf.box)→acc κ0 (fun i=>(rs[i]?.map (·.bf.box)).getD []) (fun i=>listed.getD i false) ops.length t=acc κ0 (fun i=>(rs[i]?.map (·.bf.box)).getD []) (fun _=>true) j t:=by
   intro t ht
   refine qg (by omega) (fun i hi he=>?_) (fun i Dt hi he=>?_)
   ·obtain ⟨x,ox,hx,lk⟩:=j7 i (by omega)
    simp only [hx,Option.map_some,Option.getD_some]
    exact ht x ox (apart i x ox hx lk (by omega) (.inl ⟨hi,he⟩)).1
   ·rcases Nat.lt_or_eq_of_le Dt with aJ | rfl
    ·obtain ⟨x,ox,hx,lk⟩:=j7 i hi
     simp only [hx,Option.map_some,Option.getD_some]
     exact ht x ox (apart i x ox hx lk (by omega) (.inr ⟨aJ,he⟩)).1
    ·rw [FR] at he; cases he
  have w5:∀{x y:Rec} {oy:Oper},da ops x y oy=true→iU (ib x.bf.dst) (oy.looksAt ops.toArray)=true∧iU (ib x.bf.dst) (ib y.bf.dst)=true∧iU (dQ x.bf.box) y.rows=true∧iU (dQ x.bf.box) y.bf.reads=true∧iU (dQ x.bf.box) (dQ y.bf.box)=true:=by
   intro x y oy h
   simp only [da,Bool.and_eq_true] at h
   exact ⟨h.1.1.1.1,h.1.1.1.2,h.1.1.2,h.1.2,h.2⟩
  have au:A8 ops o (acc ρ0 (fun i=>(rs[i]?.map (·.bf.dst)).getD []) (fun _=>true) j) (acc ρ0 (fun i=>(rs[i]?.map (·.bf.dst)).getD []) (fun i=>listed.getD i false) ops.length)
    (acc κ0 (fun i=>(rs[i]?.map (·.bf.box)).getD []) (fun _=>true) j) (acc κ0 (fun i=>(rs[i]?.map (·.bf.box)).getD []) (fun i=>listed.getD i false) ops.length) (rs[j]'(by omega)).bf.reads (rs[j]'(by omega)).bf.box:=by
   refine ⟨fun t ht=>uV t fun x ox h hm=>?_,fun i hi=>gj i fun x ox h hm=>?_,fun i hi=>gj i fun x ox h hm=>?_,fun i b hb=>gj i fun x ox h hm=>?_⟩
   ·exact cA (w5 h).1 t (by rw [kG]; exact hm) ht
   ·exact cA (w5 h).2.2.1 i (by rw [cY]; exact hm) (by rw [Jd]; exact hi)
   ·exact cA (w5 h).2.2.2.1 i (by rw [cY]; exact hm) hi
   ·exact cA (w5 h).2.2.2.2 i (by rw [cY]; exact hm) (by rw [cY]; exact List.mem_map.2 ⟨(i,b),hb,rfl⟩)
  have bc:=rF F hF _ _ au g a w ⟨dh,zy⟩ hs
  have iV:(fun i=>(listed.setIfInBounds j true).getD i false)=kE (fun i=>listed.getD i false) j:=by
   funext i
   simp only [kE,Array.getD_eq_getD_getElem?]
   by_cases e:i=j
   ·subst e; simp [aT,xc]
   ·rw [if_neg e,Array.getElem?_setIfInBounds_ne (fun h=>e h.symm)]
  have next:∀a' w',St g n (aw (acc ρ0 (fun i=>(rs[i]?.map (·.bf.dst)).getD []) (fun i=>listed.getD i false) ops.length) (rs[j]'(by omega)).bf.dst) (aw (acc κ0 (fun i=>(rs[i]?.map (·.bf.box)).getD []) (fun i=>listed.getD i false) ops.length) (rs[j]'(by omega)).bf.box) a' w' →
    wpAnyIn F 0 P .any ops.toArray Q fuel (listed.setIfInBounds j true) a' w':=by
   intro a' w' dD
   refine ih _ a' w' (by simp [aT]) ?_ ?_ ?_
   ·rw [iV]
    have:=uR (E:=fun i=>listed.getD i false) FR xc
    omega
   ·have Je:∀i,(listed.setIfInBounds j true).getD i false=kE (fun i=>listed.getD i false) j i:=fun i=>congrFun iV i
    intro i o' hU hi d hd
    rw [Je] at hi ⊢
    have up:listed.getD d false=true→kE (fun i=>listed.getD i false) j d=true:=fun h=>by
     by_cases e:d=j
     ·subst e; exact rG _ _
     ·rw [gN _ e]; exact h
    by_cases e:i=j
    ·subst e
     rw [ho] at hU; injection hU with hU; subst hU
     exact up (Jc d hd)
    ·rw [gN _ e] at hi
     exact up (j6 i o' hU hi d hd)
   ·rw [iV]
    rw [qh (f:=ρ0) FR xc (fun i h1 h2 h3 t ht=>?_),qh (f:=κ0) FR xc (fun i h1 h2 h3 t ht=>?_)]
    ·simpa [FT] using dD
    ·obtain ⟨x,ox,hx,lk⟩:=j7 i h2
     simp only [FT,hx,Option.map_some,Option.getD_some] at ht ⊢
     have h5:=cA (w5 (apart i x ox hx lk (by omega) (.inr ⟨h1,h3⟩)).2).2.2.2.2 t (by rw [cY]; exact ht)
     rwa [cY] at h5
    ·obtain ⟨x,ox,hx,lk⟩:=j7 i h2
     simp only [FT,hx,Option.map_some,Option.getD_some] at ht ⊢
     have h5:=cA (w5 (apart i x ox hx lk (by omega) (.inr ⟨h1,h3⟩)).2).2.1 t (by rw [kG]; exact ht)
     rwa [kG] at h5
  unfold wpOpIn
  rw [show ops.toArray[j]?=some o by simpa using ho]
  unfold km at bc
  simp only
  split at bc
  ·rename_i hw; rw [if_pos hw]; exact qe next bc
  ·rename_i hw; rw [if_neg hw]; exact ⟨fun f _=>hF.fn f,next _ _ bc⟩
theorem D1 (zy:C g) {F:Fence} (hF:fT F) {lo:Nat} (dh:g.m≤lo) {ρ0:Nat→AV} {κ0:Nat→ao} {rs:List Rec} {Q:Exit→Act→World→Prop} {sf:List (Nat × Nat)} {Xx:Nat} (lB:uS ops rs sf Xx=true) (hlen:rs.length=ops.length)
  (df:∀i r o,rs[i]?=some r→ops[i]?=some o→r.rows=fo (acc ρ0 (fun i=>(rs[i]?.map (·.bf.dst)).getD []) (fun _=>true) i) (acc κ0 (fun i=>(rs[i]?.map (·.bf.box)).getD []) (fun _=>true) i) o∧ID P C ops n lo o (acc ρ0 (fun i=>(rs[i]?.map (·.bf.dst)).getD []) (fun _=>true) i) (acc κ0 (fun i=>(rs[i]?.map (·.bf.box)).getD []) (fun _=>true) i) r.bf)
  (RG:∀j x,(j,x)∈sf→∀r o,rs[j]?=some r→ops[j]?=some o→r.rows=fo (Bx ρ0 rs j) (xl κ0 rs ops.length j x) o∧ID P C ops n lo o (Bx ρ0 rs j) (xl κ0 rs ops.length j x) r.bf)
  (hQ:∀a w,St g n (acc ρ0 (fun i=>(rs[i]?.map (·.bf.dst)).getD []) (fun _=>true) ops.length) (acc κ0 (fun i=>(rs[i]?.map (·.bf.box)).getD []) (fun _=>true) ops.length) a w→Q .normal a w) :
  ∀(fuel:Nat) (listed:Array Bool) (a:Act) (w:World),listed.size=ops.length→qj (fun i=>listed.getD i false) ops.length≤fuel →
   (∀i o,ops[i]?=some o→listed.getD i false=true→∀d,d∈qc o→listed.getD d false=true) →
   St g n (acc ρ0 (fun i=>(rs[i]?.map (·.bf.dst)).getD []) (fun i=>listed.getD i false) ops.length) (acc κ0 (fun i=>(rs[i]?.map (·.bf.box)).getD []) (fun i=>listed.getD i false) ops.length) a w →
   wpAnyIn F 0 P .any ops.toArray Q fuel listed a w:=by
 simp only [uS,Bool.and_eq_true] at lB
 obtain ⟨⟨⟨Bz,lB⟩,c8⟩,_⟩:=lB
 have uU:∀(q:Nat) (o:Oper),ops[q]?=some o→∀d,d∈qc o→d<ops.length:=fun q o ho d hd=>by
  have h1:=ju Bz ho d hd
  have h2:=(List.getElem?_eq_some_iff.1 ho).1
  omega
 have done:∀(listed:Array Bool) (a:Act) (w:World),(∀i,i<ops.length→listed.getD i false=true) →
   St g n (acc ρ0 (fun i=>(rs[i]?.map (·.bf.dst)).getD []) (fun i=>listed.getD i false) ops.length) (acc κ0 (fun i=>(rs[i]?.map (·.bf.box)).getD []) (fun i=>listed.getD i false) ops.length) a w→Q .normal a w:=by
  intro listed a w hl hs
  refine hQ a w ?_
  have e1:∀t,acc ρ0 (fun i=>(rs[i]?.map (·.bf.dst)).getD []) (fun i=>listed.getD i false) ops.length t=acc ρ0 (fun i=>(rs[i]?.map (·.bf.dst)).getD []) (fun _=>true) ops.length t :=
   fun t=>nX fun i hi he=>by rw [hl i hi] at he; cases he
  have e2:∀t,acc κ0 (fun i=>(rs[i]?.map (·.bf.box)).getD []) (fun i=>listed.getD i false) ops.length t=acc κ0 (fun i=>(rs[i]?.map (·.bf.box)).getD []) (fun _=>true) ops.length t :=
   fun t=>nX fun i hi he=>by rw [hl i hi] at he; cases he
  rw [←funext e1,←funext e2]
  exact hs
 have stuck:∀(listed:Array Bool),listed.size=ops.length→Region.ready .any ops.toArray listed=[]→∀i,i<ops.length→listed.getD i false=true:=by
  intro listed aT hr i
  induction i using Nat.strongRecOn with
  | _ i ih =>
   intro hi
   cases hl:listed.getD i false with
   | true=>rfl
   | false =>
    have ho:ops[i]?=some (ops[i]'hi):=List.getElem?_eq_getElem hi
    have:i∈Region.ready .any ops.toArray listed:=(mem_ready aT).2 ⟨_,ho,hl,fun d hd=>ih d (by have:=ju Bz ho d hd; omega) (uU i _ ho d hd)⟩
    rw [hr] at this; cases this
 intro fuel
 induction fuel with
 | zero =>
  intro listed a w aT hc j6 hs
  have hl:=rH (E:=fun i=>listed.getD i false) (m:=ops.length) (by omega)
  refine ⟨?_,done listed a w hl hs⟩
  refine List.eq_nil_iff_forall_not_mem.2 fun i hi=>?_
  obtain ⟨o,ho,h1,_⟩:=(mem_ready aT).1 hi
  have:listed.getD i false=true:=hl i (List.getElem?_eq_some_iff.1 ho).1
  rw [h1] at this; cases this
 | succ fuel ih =>
  intro listed a w aT hc j6 hs
  refine ⟨fun hr=>done listed a w (stuck listed aT hr) hs,fun j hj=>?_⟩
  obtain ⟨o,ho,FR,Jc⟩:=(mem_ready aT).1 hj
  have xc:j<ops.length:=(List.getElem?_eq_some_iff.1 ho).1
  have FT:rs[j]?=some (rs[j]'(by omega)):=List.getElem?_eq_getElem (by omega)
  obtain ⟨Jd,rF⟩:=df j _ o FT ho
  have w5:∀{x y:Rec} {oy:Oper},da ops x y oy=true→iU (ib x.bf.dst) (oy.looksAt ops.toArray)=true∧iU (ib x.bf.dst) (ib y.bf.dst)=true∧iU (dQ x.bf.box) y.rows=true∧iU (dQ x.bf.box) y.bf.reads=true∧iU (dQ x.bf.box) (dQ y.bf.box)=true:=by
   intro x y oy h
   simp only [da,Bool.and_eq_true] at h
   exact ⟨h.1.1.1.1,h.1.1.1.2,h.1.1.2,h.1.2,h.2⟩
  have TH:∀{x y:Rec} {oy:Oper},da ops x y oy=true→mR ops x y oy=true:=by
   intro x y oy h
   have:=w5 h
   simp only [mR,Bool.and_eq_true]
   exact ⟨this.1,this.2.1⟩
  have Rx:∀{y:Rec},xX y=true→y.bf.box=[]:=by
   intro y h
   unfold xX at h
   split at h
   ·assumption
   ·cases h
  have Q6:∀(i:Nat) (x:Rec) (ox:Oper),rs[i]?=some x→ops[i]?=some ox→i ≠ j→(i<j∧listed.getD i false=false ∨ j<i∧listed.getD i false=true) →
    mR ops x (rs[j]'(by omega)) o=true∧iU (ib (rs[j]'(by omega)).bf.dst) (ib x.bf.dst)=true∧iU (dQ (rs[j]'(by omega)).bf.box) (dQ x.bf.box)=true∧(da ops x (rs[j]'(by omega)) o=true ∨ xj j i sf=true):=by
   intro i x ox hx lk bD oF
   rcases oF with ⟨aJ,Pj⟩ | ⟨aJ,Pj⟩
   ·have h1:=iD lB FT ho
    rw [Nat.zero_add] at h1
    rcases kp h1 hx lk (by omega) with hr | ⟨h2,h3⟩ | ⟨h2,h3,h4,h5⟩ | ⟨h2,h3,h4,h5⟩
    ·rw [Nat.zero_add] at hr
     have:listed.getD i false=true:=jw (E:=fun i=>listed.getD i false) j6 ho hr Jc (uU j o ho) uU
     rw [Pj] at this; cases this
    ·exact ⟨TH h2,(w5 h3).2.1,(w5 h3).2.2.2.2,.inl h2⟩
    ·rw [Nat.zero_add] at h2
     exact ⟨h3,(w5 h5).2.1,(w5 h5).2.2.2.2,.inr h2⟩
    ·simp only [mR,Bool.and_eq_true] at h3
     exact ⟨TH h5,h3.2,by rw [Rx h4]; exact uT _,.inl h5⟩
   ·have h1:=iD lB hx lk
    rw [Nat.zero_add] at h1
    rcases kp h1 FT ho (by omega) with hr | ⟨h2,h3⟩ | ⟨h2,h3,h4,h5⟩ | ⟨h2,h3,h4,h5⟩
    ·rw [Nat.zero_add] at hr
     have:listed.getD j false=true:=jw (E:=fun i=>listed.getD i false) j6 lk hr (j6 i ox lk Pj) (uU i ox lk) uU
     rw [FR] at this; cases this
    ·exact ⟨TH h3,(w5 h2).2.1,(w5 h2).2.2.2.2,.inl h3⟩
    ·simp only [mR,Bool.and_eq_true] at h3
     exact ⟨TH h5,h3.2,by rw [Rx h4]; exact uT _,.inl h5⟩
    ·rw [Nat.zero_add] at h2
     exact ⟨h3,(w5 h5).2.1,(w5 h5).2.2.2.2,.inr h2⟩
  have j7:∀i,i<ops.length→∃x ox,rs[i]?=some x∧ops[i]?=some ox:=fun i hi=>⟨_,_,List.getElem?_eq_getElem (by omega),List.getElem?_eq_getElem hi⟩
  have uV:∀t,(∀(x:Rec),mR ops x (rs[j]'(by omega)) o=true→t ∉ keys x.bf.dst)→acc ρ0 (fun i=>(rs[i]?.map (·.bf.dst)).getD []) (fun i=>listed.getD i false) ops.length t=acc ρ0 (fun i=>(rs[i]?.map (·.bf.dst)).getD []) (fun _=>true) j t:=by
   intro t ht
   refine qg (by omega) (fun i hi he=>?_) (fun i Dt hi he=>?_)
   ·obtain ⟨x,ox,hx,lk⟩:=j7 i (by omega)
    simp only [hx,Option.map_some,Option.getD_some]
    exact ht x (Q6 i x ox hx lk (by omega) (.inl ⟨hi,he⟩)).1
   ·rcases Nat.lt_or_eq_of_le Dt with aJ | rfl
    ·obtain ⟨x,ox,hx,lk⟩:=j7 i hi
     simp only [hx,Option.map_some,Option.getD_some]
     exact ht x (Q6 i x ox hx lk (by omega) (.inr ⟨aJ,he⟩)).1
    ·rw [FR] at he; cases he
  have bt:∀t,t∈o.looksAt ops.toArray→acc ρ0 (fun i=>(rs[i]?.map (·.bf.dst)).getD []) (fun i=>listed.getD i false) ops.length t=acc ρ0 (fun i=>(rs[i]?.map (·.bf.dst)).getD []) (fun _=>true) j t:=fun t ht=>uV t fun x h hm=>by
   simp only [mR,Bool.and_eq_true] at h
   exact cA h.1 t (by rw [kG]; exact hm) ht
  have bc:km P F ops.toArray o a w fun a' w'=>St g n (aw (acc ρ0 (fun i=>(rs[i]?.map (·.bf.dst)).getD []) (fun i=>listed.getD i false) ops.length) (rs[j]'(by omega)).bf.dst) (aw (acc κ0 (fun i=>(rs[i]?.map (·.bf.box)).getD []) (fun i=>listed.getD i false) ops.length) (rs[j]'(by omega)).bf.box) a' w':=by
   by_cases hex:∃q,xj j q sf=true∧q ≠ j∧q<ops.length∧(q<j∧listed.getD q false=false ∨ j<q∧listed.getD q false=true)
   ·-- with a harmless writer out of Xy place
    obtain ⟨q,hq,Zk,Jf,Xz⟩:=hex
    obtain ⟨Pk,RH⟩:=RG j q (qk hq) _ o FT ho
    have gj:∀t,(∀(x:Rec) (ox:Oper),da ops x (rs[j]'(by omega)) o=true→t ∉ keys x.bf.box)→acc κ0 (fun i=>(rs[i]?.map (·.bf.box)).getD []) (fun i=>listed.getD i false) ops.length t=xl κ0 rs ops.length j q t:=by
     intro t ht
     refine xY fun i hi bD=>?_
     obtain ⟨x,ox,hx,lk⟩:=j7 i hi
     simp only [hx,Option.map_some,Option.getD_some]
     by_cases UB:i=q
     ·exfalso
      subst UB
      apply bD
      simp only [UA,Nat.beq_refl,cond_true]
      rcases Xz with ⟨h1,h2⟩ | ⟨h1,h2⟩
      ·rw [h2,show Nat.blt i j=true by rw [Nat.blt_eq]; exact h1]; rfl
      ·rw [h2,show Nat.blt i j=false by cases hb:Nat.blt i j with | false=>rfl | true=>rw [Nat.blt_eq] at hb; omega]; rfl
     ·have hb:Nat.beq i q=false:=by cases hb:Nat.beq i q with | false=>rfl | true=>exact absurd (Nat.eq_of_beq_eq_true hb) UB
      simp only [UA,hb,cond_false] at bD
      by_cases FG:i=j
      ·subst FG
       exfalso
       apply bD
       rw [FR]
       cases cw:Nat.blt i i with | false=>rfl | true=>rw [Nat.blt_eq] at cw; omega
      ·have oF:i<j∧listed.getD i false=false ∨ j<i∧listed.getD i false=true:=by
        rcases Nat.lt_or_gt_of_ne FG with h | h
        ·left
         refine ⟨h,?_⟩
         rw [show Nat.blt i j=true by rw [Nat.blt_eq]; exact h] at bD
         simpa using bD
        ·right
         refine ⟨h,?_⟩
         rw [show Nat.blt i j=false by cases hb:Nat.blt i j with | false=>rfl | true=>rw [Nat.blt_eq] at hb; omega] at bD
         simpa using bD
       rcases (Q6 i x ox hx lk FG oF).2.2.2 with h | h
       ·exact ht x ox h
       ·exact absurd (sQ c8 (qk h) (qk hq)) UB
    refine RH F hF _ _ ⟨bt,fun i hi=>gj i fun x ox h hm=>?_,fun i hi=>gj i fun x ox h hm=>?_,fun i b hb=>gj i fun x ox h hm=>?_⟩ g a w ⟨dh,zy⟩ hs
    ·exact cA (w5 h).2.2.1 i (by rw [cY]; exact hm) (by rw [Pk]; exact hi)
    ·exact cA (w5 h).2.2.2.1 i (by rw [cY]; exact hm) hi
    ·exact cA (w5 h).2.2.2.2 i (by rw [cY]; exact hm) (by rw [cY]; exact List.mem_map.2 ⟨(i,b),hb,rfl⟩)
   ·have full:∀(i:Nat) (x:Rec) (ox:Oper),rs[i]?=some x→ops[i]?=some ox→i ≠ j→(i<j∧listed.getD i false=false ∨ j<i∧listed.getD i false=true)→da ops x (rs[j]'(by omega)) o=true:=by
     intro i x ox hx lk bD oF
     rcases (Q6 i x ox hx lk bD oF).2.2.2 with h | h
     ·exact h
     ·exact absurd ⟨i,h,bD,(List.getElem?_eq_some_iff.1 lk).1,oF⟩ hex
    have gj:∀t,(∀(x:Rec) (ox:Oper),da ops x (rs[j]'(by omega)) o=true→t ∉ keys x.bf.box)→acc κ0 (fun i=>(rs[i]?.map (·.bf.box)).getD []) (fun i=>listed.getD i false) ops.length t=acc κ0 (fun i=>(rs[i]?.map (·.bf.box)).getD []) (fun _=>true) j t:=by
     intro t ht
     refine qg (by omega) (fun i hi he=>?_) (fun i Dt hi he=>?_)
     ·obtain ⟨x,ox,hx,lk⟩:=j7 i (by omega)
      simp only [hx,Option.map_some,Option.getD_some]
      exact ht x ox (full i x ox hx lk (by omega) (.inl ⟨hi,he⟩))
     ·rcases Nat.lt_or_eq_of_le Dt with aJ | rfl
      ·obtain ⟨x,ox,hx,lk⟩:=j7 i hi
       simp only [hx,Option.map_some,Option.getD_some]
       exact ht x ox (full i x ox hx lk (by omega) (.inr ⟨aJ,he⟩))
      ·rw [FR] at he; cases he
    refine rF F hF _ _ ⟨bt,fun i hi=>gj i fun x ox h hm=>?_,fun i hi=>gj i fun x ox h hm=>?_,fun i b hb=>gj i fun x ox h hm=>?_⟩ g a w ⟨dh,zy⟩ hs
    ·exact cA (w5 h).2.2.1 i (by rw [cY]; exact hm) (by rw [Jd]; exact hi)
    ·exact cA (w5 h).2.2.2.1 i (by rw [cY]; exact hm) hi
    ·exact cA (w5 h).2.2.2.2 i (by rw [cY]; exact hm) (by rw [cY]; exact List.mem_map.2 ⟨(i,b),hb,rfl⟩)
  have iV:(fun i=>(listed.setIfInBounds j true).getD i false)=kE (fun i=>listed.getD i false) j:=by
   funext i
   simp only [kE,Array.getD_eq_getD_getElem?]
   by_cases e:i=j
   ·subst e; simp [aT,xc]
   ·rw [if_neg e,Array.getElem?_setIfInBounds_ne (fun h=>e h.symm)]
  have next:∀a' w',St g n (aw (acc ρ0 (fun i=>(rs[i]?.map (·.bf.dst)).getD []) (fun i=>listed.getD i false) ops.length) (rs[j]'(by omega)).bf.dst) (aw (acc κ0 (fun i=>(rs[i]?.map (·.bf.box)).getD []) (fun i=>listed.getD i false) ops.length) (rs[j]'(by omega)).bf.box) a' w' →
    wpAnyIn F 0 P .any ops.toArray Q fuel (listed.setIfInBounds j true) a' w':=by
   intro a' w' dD
   refine ih _ a' w' (by simp [aT]) ?_ ?_ ?_
   ·rw [iV]
    have:=uR (E:=fun i=>listed.getD i false) FR xc
    omega
   ·have Je:∀i,(listed.setIfInBounds j true).getD i false=kE (fun i=>listed.getD i false) j i:=fun i=>congrFun iV i
    intro i o' hU hi d hd
    rw [Je] at hi ⊢
    have up:listed.getD d false=true→kE (fun i=>listed.getD i false) j d=true:=fun h=>by
     by_cases e:d=j
     ·subst e; exact rG _ _
     ·rw [gN _ e]; exact h
    by_cases e:i=j
    ·subst e
     rw [ho] at hU; injection hU with hU; subst hU
     exact up (Jc d hd)
    ·rw [gN _ e] at hi
     exact up (j6 i o' hU hi d hd)
   ·rw [iV]
    rw [qh (f:=ρ0) FR xc (fun i h1 h2 h3 t ht=>?_),qh (f:=κ0) FR xc (fun i h1 h2 h3 t ht=>?_)]
    ·simpa [FT] using dD
    ·obtain ⟨x,ox,hx,lk⟩:=j7 i h2
     simp only [FT,hx,Option.map_some,Option.getD_some] at ht ⊢
     have h5:=cA (Q6 i x ox hx lk (by omega) (.inr ⟨h1,h3⟩)).2.2.1 t (by rw [cY]; exact ht)
     rwa [cY] at h5
    ·obtain ⟨x,ox,hx,lk⟩:=j7 i h2
     simp only [FT,hx,Option.map_some,Option.getD_some] at ht ⊢
     have h5:=cA (Q6 i x ox hx lk (by omega) (.inr ⟨h1,h3⟩)).2.1 t (by rw [kG]; exact ht)
     rwa [kG] at h5
  unfold wpOpIn
  rw [show ops.toArray[j]?=some o by simpa using ho]
  unfold km at bc
  simp only
  split at bc
  ·rename_i hw; rw [if_pos hw]; exact qe next bc
  ·rename_i hw; rw [if_neg hw]; exact ⟨fun f _=>hF.fn f,next _ _ bc⟩
end
end Go.TM
