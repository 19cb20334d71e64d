import Derived.Test.YtpbdohkbiklflaaGreatDoorSM11
set_option linter.unusedVariables false
set_option linter.unusedSimpArgs false
set_option linter.unusedSectionVars false
namespace Go.TM
open Go.RowKit
variable [cj]
theorem cr:∀{l r:List Nat},iw l r=true→∀x,x∈l→x ∉ r
 | [],r,_,x,h=>by simp at h
 | y::l,r,h,x,hx=>by
  simp only [iw,Bool.and_eq_true,Bool.not_eq_true'] at h
  rcases List.mem_cons.1 hx with rfl | hx
  ·exact ec h.1
  ·exact cr h.2 x hx
theorem j7 (l:List (Nat × AV)):gO l=keys l:=by
 induction l with
 | nil=>rfl
 | cons p r ih=>simp [gO,keys,ih]
theorem cL (l:List (Nat × ak)):dH l=keys l:=by
 induction l with
 | nil=>rfl
 | cons p r ih=>simp [dH,keys,ih]
def py (E:Nat→Bool):Nat→Nat
 | 0=>0
 | m+1=>(if E m then 0 else 1)+py E m
theorem qA (E:Nat→Bool) (j:Nat):j5 E j j=true:=by simp [j5]
theorem gy (E:Nat→Bool) {i j:Nat} (h:i ≠ j):j5 E j i=E i:=by simp [j5,h]
theorem tD {E:Nat→Bool} {j:Nat} (hj:E j=false):∀{m:Nat},j<m→py (j5 E j) m+1=py E m
 | 0,h=>by omega
 | m+1,h=>by
  rcases Nat.lt_or_ge j m with aK | db
  ·have ih:=tD hj aK
   have e:=gy E (i:=m) (j:=j) (by omega)
   simp only [py,e]
   omega
  ·have:j=m:=by omega
   subst this
   have low:∀q,q≤j→py (j5 E j) q=py E q:=by
    intro q
    induction q with
    | zero=>intro _; rfl
    | succ q ih =>
     intro hq
     have e:=gy E (i:=q) (j:=j) (by omega)
     simp only [py,e,ih (by omega)]
   have:=low j (Nat.le_refl _)
   simp only [py,qA,hj,if_true,Bool.false_eq_true,if_false]
   omega
theorem qB {E:Nat→Bool}:∀{m:Nat},py E m=0→∀i,i<m→E i=true
 | 0,_,i,hi=>by omega
 | m+1,h,i,hi=>by
  simp only [py] at h
  rcases Nat.lt_or_ge i m with aK | db
  ·exact qB (by omega) i aK
  ·have:i=m:=by omega
   subst this
   cases he:E i with
   | true=>rfl
   | false=>simp [he] at h
section
variable {ops:List Oper}
theorem iT:∀{l:List Oper} {s:Nat},tz s l=true→∀{i:Nat} {o:Oper},l[i]?=some o→∀d,d∈pn o→d<s+i
 | [],s,_,i,o,h,_,_=>by simp at h
 | x::l,s,he,i,o,h,d,hd=>by
  simp only [tz,Bool.and_eq_true,List.all_eq_true] at he
  cases i with
  | zero=>simp at h; subst h; have:=he.1 d hd; rw [Nat.blt_eq] at this; omega
  | succ i=>have:=iT he.2 (i:=i) (by simpa using h) d hd; omega
theorem kK {rs:List Rec} {j:Nat} {y:Rec} {oy:Oper}:∀{xr:List Rec} {xo:List Oper} {s:Nat},po ops rs j y oy s xr xo=true→∀{i:Nat} {x:Rec} {ox:Oper},xr[i]?=some x→xo[i]?=some ox→s+i<j →
  mc ops ops.length (s+i) j=true ∨ (cU ops x y oy=true∧cU ops y x ox=true)
 | [],xo,s,_,i,x,ox,h,_,_=>by simp at h
 | _::_,[],s,_,i,x,ox,_,h,_=>by simp at h
 | a::xr,b::xo,s,hh,i,x,ox,h1,h2,aK=>by
  simp only [po,Bool.and_eq_true] at hh
  cases i with
  | zero =>
   simp at h1 h2
   subst h1; subst h2
   have:=hh.1
   rw [show Nat.blt s j=true by rw [Nat.blt_eq]; omega] at this
   simpa using this
  | succ i =>
   have:=kK hh.2 (i:=i) (by simpa using h1) (by simpa using h2) (by omega)
   rw [show s+(i+1)=s+1+i by omega]; exact this
theorem iU {rs:List Rec}:∀{yr:List Rec} {yo:List Oper} {s:Nat},nc ops rs s yr yo=true→∀{j:Nat} {y:Rec} {oy:Oper},yr[j]?=some y→yo[j]?=some oy →
  po ops rs (s+j) y oy 0 rs ops=true
 | [],yo,s,_,j,y,oy,h,_=>by simp at h
 | _::_,[],s,_,j,y,oy,_,h=>by simp at h
 | a::yr,b::yo,s,hh,j,y,oy,h1,h2=>by
  simp only [nc,Bool.and_eq_true] at hh
  cases j with
  | zero=>simp at h1 h2; subst h1; subst h2; exact hh.1
  | succ j =>
   have:=iU hh.2 (j:=j) (by simpa using h1) (by simpa using h2)
   rw [show s+(j+1)=s+1+j by omega]; exact this
theorem z5 {o:Oper} {d:Nat}:d∈pn o ↔ ∃e,e∈o.after.toList∧Region.binds .any e=true∧e.on=d:=by
 unfold pn
 rw [List.mem_filterMap]
 constructor
 ·rintro ⟨e,he,h⟩
  cases hb:Region.binds .any e with
  | false=>rw [hb] at h; cases h
  | true=>rw [hb] at h; simp at h; exact ⟨e,he,hb,h⟩
 ·rintro ⟨e,he,hb,rfl⟩
  exact ⟨e,he,by rw [hb]; rfl⟩
theorem iV {E:Nat→Bool} (jD:∀i o,ops[i]?=some o→E i=true→∀d,d∈pn o→E d=true):∀{f i j:Nat} {o:Oper},ops[j]?=some o→mc ops f i j=true→(∀d,d∈pn o→E d=true)→(∀d,d∈pn o→d<ops.length)→(∀(q:Nat) (o:Oper),ops[q]?=some o→∀d,d∈pn o→d<ops.length)→E i=true
 | 0,i,j,o,_,h,_,_,_=>by simp [mc] at h
 | f+1,i,j,o,ho,h,hd,hl,cZ=>by
  simp only [mc,ho,List.any_eq_true,Bool.or_eq_true] at h
  obtain ⟨d,R1,h⟩:=h
  rcases h with h | h
  ·have:=Nat.eq_of_beq_eq_true h; subst this; exact hd d R1
  ·have aK:=hl d R1
   have R2:ops[d]?=some (ops[d]'aK):=List.getElem?_eq_getElem aK
   exact iV jD R2 h (jD d _ R2 (hd d R1)) (cZ d _ R2) cZ
theorem mem_ready {listed:Array Bool} {i:Nat} (aN:listed.size=ops.length):i∈Region.ready .any ops.toArray listed ↔ ∃o,ops[i]?=some o∧listed.getD i false=false∧∀d,d∈pn o→listed.getD d false=true:=by
 unfold Region.ready
 rw [List.mem_filter,List.mem_range]
 constructor
 ·rintro ⟨aK,h⟩
  have fS:i<ops.length:=by simpa using aK
  have ho:ops[i]?=some (ops[i]'fS):=List.getElem?_eq_getElem fS
  refine ⟨_,ho,?_,?_⟩
  ·simp only [Bool.and_eq_true,Bool.not_eq_true'] at h
   have h1:=h.1
   simp only [Array.getD_eq_getD_getElem?] at h1 ⊢
   rw [Array.getElem?_eq_getElem (by omega)] at h1 ⊢
   simpa using h1
  ·intro d hd
   simp only [Bool.and_eq_true] at h
   have h2:=h.2
   rw [show ops.toArray[i]?=some (ops[i]'fS) by simp] at h2
   simp only [Option.map_some,Option.getD_some,Array.all_eq_true'] at h2
   obtain ⟨e,he,hb,rfl⟩:=z5.1 hd
   have:=h2 e (by simpa using he)
   simpa [hb] using this
 ·rintro ⟨o,ho,h1,h2⟩
  have aK:i<ops.length:=(List.getElem?_eq_some_iff.1 ho).1
  refine ⟨by simpa using aK,?_⟩
  simp only [Bool.and_eq_true,Bool.not_eq_true']
  constructor
  ·simp only [Array.getD_eq_getD_getElem?] at h1 ⊢
   rw [Array.getElem?_eq_getElem (by omega)] at h1 ⊢
   simpa using h1
  ·rw [show ops.toArray[i]?=some o by simpa using ho]
   simp only [Option.map_some,Option.getD_some,Array.all_eq_true']
   intro e he
   cases hb:Region.binds .any e with
   | false=>rfl
   | true =>
    have:=h2 e.on (z5.2 ⟨e,by simpa using he,hb,rfl⟩)
    simpa using this
end
def me (ops:List Oper) (x y:Rec) (oy:Oper):Bool:=iw (gO x.aX.dst) (oy.looksAt ops.toArray) && iw (gO x.aX.dst) (gO y.aX.dst)
def wQ (y:Rec):Bool:=match y.aX.box with
 | []=>true
 | _=>false
def v5 (j i:Nat):List (Nat × Nat)→Bool
 | []=>false
 | p::r=>(Nat.beq p.1 j && Nat.beq p.2 i) || v5 j i r
def mf (ops:List Oper) (rs:List Rec) (sf:List (Nat × Nat)) (j:Nat) (y:Rec) (oy:Oper):Nat→List Rec→List Oper→Bool
 | i,x::xr,ox::or=>(bif Nat.blt i j then mc ops ops.length i j || (cU ops x y oy && cU ops y x ox) || (v5 j i sf && me ops x y oy && wQ y && cU ops y x ox) || (v5 i j sf && me ops y x ox && wQ x && cU ops x y oy) else true) && mf ops rs sf j y oy (i+1) xr or
 | _,_,_=>true
def kL (ops:List Oper) (rs:List Rec) (sf:List (Nat × Nat)):Nat→List Rec→List Oper→Bool
 | j,y::yr,oy::or=>mf ops rs sf j y oy 0 rs ops && kL ops rs sf (j+1) yr or
 | _,_,_=>true
def qC:List (Nat × Nat)→List Nat
 | []=>[]
 | p::r=>p.1::qC r
def nj (nx:Nat):List Rec→Bool
 | []=>true
 | r::l=>(dH r.aX.box).all (fun i=>Nat.blt i nx) && nj nx l
def tE (ops:List Oper) (rs:List Rec) (sf:List (Nat × Nat)) (nx:Nat):Bool:=tz 0 ops && kL ops rs sf 0 rs ops && ey (qC sf) && nj nx rs
def R3 (j x:Nat):Nat→Bool:=fun i=>bif Nat.beq i x then !Nat.blt i j else Nat.blt i j
def z7 (ρ0:Nat→AV) (rs:List Rec) (j:Nat):Nat→AV:=acc ρ0 (fun i=>(rs[i]?.map (·.aX.dst)).getD []) (fun _=>true) j
def v7 (κ0:Nat→ak) (rs:List Rec) (m j x:Nat):Nat→ak:=acc κ0 (fun i=>(rs[i]?.map (·.aX.box)).getD []) (R3 j x) m
def M5 (P:Program) (T:List TI) (ops:List Oper) (n nx:Nat) (o:Oper) (ρ:Nat→AV) (κ:Nat→ak) (aX:iP):Prop:=dV P T→∀C:df→Prop,cK P C→(∀i,nx≤i→κ i=.none)→Good P C ops n o nx ρ κ fun e _=>e=aX
def z8 (P:Program) (T:List TI) (ops:List Oper) (n nx:Nat) (ρ0:Nat→AV) (κ0:Nat→ak) (rs:List Rec):List (Nat × Nat)→Prop
 | []=>True
 | (j,x)::r=>(match ops[j]?,rs[j]? with
  | some o,some rc=>rc.rows=eY (z7 ρ0 rs j) (v7 κ0 rs ops.length j x) o∧M5 P T ops n nx o (z7 ρ0 rs j) (v7 κ0 rs ops.length j x) rc.aX
  | _,_=>False)∧z8 P T ops n nx ρ0 κ0 rs r
theorem tF:∀l:List Nat,iw l []=true
 | []=>rfl
 | _::l=>by simp only [iw,fJ,Bool.not_false,Bool.true_and]; exact tF l
theorem pz {j i:Nat}:∀{sf:List (Nat × Nat)},v5 j i sf=true→(j,i)∈sf
 | [],h=>by simp [v5] at h
 | p::r,h=>by
  simp only [v5,Bool.or_eq_true,Bool.and_eq_true] at h
  rcases h with ⟨h1,h2⟩ | h
  ·have e1:=Nat.eq_of_beq_eq_true h1
   have e2:=Nat.eq_of_beq_eq_true h2
   obtain ⟨a,b⟩:=p
   simp only at e1 e2
   subst e1; subst e2
   exact List.mem_cons_self
  ·exact List.mem_cons_of_mem _ (pz h)
theorem oj {j i:Nat}:∀{sf:List (Nat × Nat)},(j,i)∈sf→j∈qC sf
 | [],h=>by simp at h
 | p::r,h=>by
  simp only [qC]
  rcases List.mem_cons.1 h with rfl | h
  ·exact List.mem_cons_self
  ·exact List.mem_cons_of_mem _ (oj h)
theorem rO {j i i':Nat}:∀{sf:List (Nat × Nat)},ey (qC sf)=true→(j,i)∈sf→(j,i')∈sf→i=i'
 | [],_,h,_=>by simp at h
 | p::r,hn,h,h'=>by
  obtain ⟨Fg,UT⟩:=rP (i:=p.1) (r:=qC r) hn
  rcases List.mem_cons.1 h with h1 | h1
  ·rcases List.mem_cons.1 h' with h2 | h2
   ·have:=h1.trans h2.symm
    injection this
   ·subst h1; exact absurd (oj h2) Fg
  ·rcases List.mem_cons.1 h' with h2 | h2
   ·subst h2; exact absurd (oj h1) Fg
   ·exact rO UT h1 h2
theorem wR {γ:Type _} {f:Nat→γ} {wr:Nat→List (Nat × γ)} {E E':Nat→Bool} {t:Nat}:∀{len:Nat},(∀i,i<len→E i ≠ E' i→t ∉ keys (wr i))→acc f wr E len t=acc f wr E' len t
 | 0,_=>rfl
 | len+1,h=>by
  have ih:=wR (t:=t) (len:=len) (f:=f) (wr:=wr) (E:=E) (E':=E') fun i hi=>h i (by omega)
  simp only [acc]
  by_cases e:E len=E' len
  ·rw [e]
   cases E' len with
   | false=>simpa using ih
   | true =>
    simp only [if_true]
    by_cases hk:t∈keys (wr len)
    ·have key:∀(l:List (Nat × γ)),t∈keys l→∀g g':Nat→γ,aq g l t=aq g' l t:=by
      intro l
      induction l with
      | nil=>intro hk; simp [keys] at hk
      | cons p r UU =>
       intro hk g g'
       obtain ⟨i,x⟩:=p
       simp only [aq]
       by_cases e:t=i
       ·subst e; simp
       ·rw [ad _ _ e,ad _ _ e]
        refine UU ?_ g g'
        simp only [keys,List.map_cons,List.mem_cons] at hk
        rcases hk with rfl | hk
        ·exact absurd rfl e
        ·exact hk
     exact key _ hk _ _
    ·rw [bV _ hk,bV _ hk]; exact ih
  ·have hk:=h len (by omega) e
   have u1:(if E len=true then aq (acc f wr E len) (wr len) else acc f wr E len) t=acc f wr E len t:=by
    split
    ·exact bV _ hk
    ·rfl
   have u2:(if E' len=true then aq (acc f wr E' len) (wr len) else acc f wr E' len) t=acc f wr E' len t:=by
    split
    ·exact bV _ hk
    ·rfl
   rw [u1,u2]; exact ih
theorem jS {ops:List Oper} {rs:List Rec} {sf:List (Nat × Nat)} {j:Nat} {y:Rec} {oy:Oper}:∀{xr:List Rec} {xo:List Oper} {s:Nat},mf ops rs sf j y oy s xr xo=true→∀{i:Nat} {x:Rec} {ox:Oper},xr[i]?=some x→xo[i]?=some ox→s+i<j →
  mc ops ops.length (s+i) j=true ∨ (cU ops x y oy=true∧cU ops y x ox=true) ∨ (v5 j (s+i) sf=true∧me ops x y oy=true∧wQ y=true∧cU ops y x ox=true) ∨ (v5 (s+i) j sf=true∧me ops y x ox=true∧wQ x=true∧cU ops x y oy=true)
 | [],xo,s,_,i,x,ox,h,_,_=>by simp at h
 | _::_,[],s,_,i,x,ox,_,h,_=>by simp at h
 | a::xr,b::xo,s,hh,i,x,ox,h1,h2,aK=>by
  simp only [mf,Bool.and_eq_true] at hh
  cases i with
  | zero =>
   simp at h1 h2
   subst h1; subst h2
   have:=hh.1
   rw [show Nat.blt s j=true by rw [Nat.blt_eq]; omega] at this
   simp only [cond_true,Bool.or_eq_true,Bool.and_eq_true] at this
   rcases this with ((h | h) | h) | h
   ·exact .inl h
   ·exact .inr (.inl h)
   ·exact .inr (.inr (.inl ⟨h.1.1.1,h.1.1.2,h.1.2,h.2⟩))
   ·exact .inr (.inr (.inr ⟨h.1.1.1,h.1.1.2,h.1.2,h.2⟩))
  | succ i =>
   have:=jS hh.2 (i:=i) (by simpa using h1) (by simpa using h2) (by omega)
   rw [show s+(i+1)=s+1+i by omega]; exact this
theorem ib {ops:List Oper} {rs:List Rec} {sf:List (Nat × Nat)}:∀{yr:List Rec} {yo:List Oper} {s:Nat},kL ops rs sf s yr yo=true→∀{j:Nat} {y:Rec} {oy:Oper},yr[j]?=some y→yo[j]?=some oy →
  mf ops rs sf (s+j) y oy 0 rs ops=true
 | [],yo,s,_,j,y,oy,h,_=>by simp at h
 | _::_,[],s,_,j,y,oy,_,h=>by simp at h
 | a::yr,b::yo,s,hh,j,y,oy,h1,h2=>by
  simp only [kL,Bool.and_eq_true] at hh
  cases j with
  | zero=>simp at h1 h2; subst h1; subst h2; exact hh.1
  | succ j =>
   have:=ib hh.2 (j:=j) (by simpa using h1) (by simpa using h2)
   rw [show s+(j+1)=s+1+j by omega]; exact this
section
variable {P:Program} {C:df→Prop} {ops:List Oper} {n:Nat} {g:df}
theorem wS (yc:C g) {F:Fence} (hF:fI F) {lo:Nat} (c5:g.m≤lo) {ρ0:Nat→AV} {κ0:Nat→ak} {rs:List Rec} {Q:Exit→Act→World→Prop} (kN:qy ops rs=true) (hlen:rs.length=ops.length)
  (cZ:∀i r o,rs[i]?=some r→ops[i]?=some o→r.rows=eY (acc ρ0 (fun i=>(rs[i]?.map (·.aX.dst)).getD []) (fun _=>true) i) (acc κ0 (fun i=>(rs[i]?.map (·.aX.box)).getD []) (fun _=>true) i) o∧GC P C ops n lo o (acc ρ0 (fun i=>(rs[i]?.map (·.aX.dst)).getD []) (fun _=>true) i) (acc κ0 (fun i=>(rs[i]?.map (·.aX.box)).getD []) (fun _=>true) i) r.aX)
  (hQ:∀a w,St g n (acc ρ0 (fun i=>(rs[i]?.map (·.aX.dst)).getD []) (fun _=>true) ops.length) (acc κ0 (fun i=>(rs[i]?.map (·.aX.box)).getD []) (fun _=>true) ops.length) a w→Q .normal a w) :
  ∀(fuel:Nat) (listed:Array Bool) (a:Act) (w:World),listed.size=ops.length→py (fun i=>listed.getD i false) ops.length≤fuel →
   (∀i o,ops[i]?=some o→listed.getD i false=true→∀d,d∈pn o→listed.getD d false=true) →
   St g n (acc ρ0 (fun i=>(rs[i]?.map (·.aX.dst)).getD []) (fun i=>listed.getD i false) ops.length) (acc κ0 (fun i=>(rs[i]?.map (·.aX.box)).getD []) (fun i=>listed.getD i false) ops.length) a w →
   wpAnyIn F 0 P .any ops.toArray Q fuel listed a w:=by
 simp only [qy,Bool.and_eq_true] at kN
 obtain ⟨Aa,kN⟩:=kN
 have tG:∀(q:Nat) (o:Oper),ops[q]?=some o→∀d,d∈pn o→d<ops.length:=fun q o ho d hd=>by
  have h1:=iT Aa ho d hd
  have h2:=(List.getElem?_eq_some_iff.1 ho).1
  omega
 have done:∀(listed:Array Bool) (a:Act) (w:World),(∀i,i<ops.length→listed.getD i false=true) →
   St g n (acc ρ0 (fun i=>(rs[i]?.map (·.aX.dst)).getD []) (fun i=>listed.getD i false) ops.length) (acc κ0 (fun i=>(rs[i]?.map (·.aX.box)).getD []) (fun i=>listed.getD i false) ops.length) a w→Q .normal a w:=by
  intro listed a w hl hs
  refine hQ a w ?_
  have e1:∀t,acc ρ0 (fun i=>(rs[i]?.map (·.aX.dst)).getD []) (fun i=>listed.getD i false) ops.length t=acc ρ0 (fun i=>(rs[i]?.map (·.aX.dst)).getD []) (fun _=>true) ops.length t :=
   fun t=>ni fun i hi he=>by rw [hl i hi] at he; cases he
  have e2:∀t,acc κ0 (fun i=>(rs[i]?.map (·.aX.box)).getD []) (fun i=>listed.getD i false) ops.length t=acc κ0 (fun i=>(rs[i]?.map (·.aX.box)).getD []) (fun _=>true) ops.length t :=
   fun t=>ni fun i hi he=>by rw [hl i hi] at he; cases he
  rw [←funext e1,←funext e2]
  exact hs
 have stuck:∀(listed:Array Bool),listed.size=ops.length→Region.ready .any ops.toArray listed=[]→∀i,i<ops.length→listed.getD i false=true:=by
  intro listed aN hr i
  induction i using Nat.strongRecOn with
  | _ i ih =>
   intro hi
   cases hl:listed.getD i false with
   | true=>rfl
   | false =>
    have ho:ops[i]?=some (ops[i]'hi):=List.getElem?_eq_getElem hi
    have:i∈Region.ready .any ops.toArray listed:=(mem_ready aN).2 ⟨_,ho,hl,fun d hd=>ih d (by have:=iT Aa ho d hd; omega) (tG i _ ho d hd)⟩
    rw [hr] at this; cases this
 intro fuel
 induction fuel with
 | zero =>
  intro listed a w aN hc jD hs
  have hl:=qB (E:=fun i=>listed.getD i false) (m:=ops.length) (by omega)
  refine ⟨?_,done listed a w hl hs⟩
  refine List.eq_nil_iff_forall_not_mem.2 fun i hi=>?_
  obtain ⟨o,ho,h1,_⟩:=(mem_ready aN).1 hi
  have:listed.getD i false=true:=hl i (List.getElem?_eq_some_iff.1 ho).1
  rw [h1] at this; cases this
 | succ fuel ih =>
  intro listed a w aN hc jD hs
  refine ⟨fun hr=>done listed a w (stuck listed aN hr) hs,fun j hj=>?_⟩
  obtain ⟨o,ho,D2,He⟩:=(mem_ready aN).1 hj
  have vT:j<ops.length:=(List.getElem?_eq_some_iff.1 ho).1
  have D3:rs[j]?=some (rs[j]'(by omega)):=List.getElem?_eq_getElem (by omega)
  obtain ⟨Hf,qz⟩:=cZ j _ o D3 ho
  have apart:∀(i:Nat) (x:Rec) (ox:Oper),rs[i]?=some x→ops[i]?=some ox→i ≠ j→(i<j∧listed.getD i false=false ∨ j<i∧listed.getD i false=true)→cU ops x (rs[j]'(by omega)) o=true∧cU ops (rs[j]'(by omega)) x ox=true:=by
   intro i x ox hx kA bA nO
   rcases nO with ⟨aK,M6⟩ | ⟨aK,M6⟩
   ·have h1:=iU kN D3 ho
    rw [Nat.zero_add] at h1
    rcases kK h1 hx kA (by omega) with hr | hr
    ·rw [Nat.zero_add] at hr
     have:listed.getD i false=true:=iV (E:=fun i=>listed.getD i false) jD ho hr He (tG j o ho) tG
     rw [M6] at this; cases this
    ·exact hr
   ·have h1:=iU kN hx kA
    rw [Nat.zero_add] at h1
    rcases kK h1 D3 ho (by omega) with hr | hr
    ·rw [Nat.zero_add] at hr
     have:listed.getD j false=true:=iV (E:=fun i=>listed.getD i false) jD kA hr (jD i ox kA M6) (tG i ox kA) tG
     rw [D2] at this; cases this
    ·exact ⟨hr.2,hr.1⟩
  have jE:∀i,i<ops.length→∃x ox,rs[i]?=some x∧ops[i]?=some ox:=fun i hi=>⟨_,_,List.getElem?_eq_getElem (by omega),List.getElem?_eq_getElem hi⟩
  have tH:∀t,(∀(x:Rec) (ox:Oper),cU ops x (rs[j]'(by omega)) o=true→t ∉ keys x.aX.dst)→acc ρ0 (fun i=>(rs[i]?.map (·.aX.dst)).getD []) (fun i=>listed.getD i false) ops.length t=acc ρ0 (fun i=>(rs[i]?.map (·.aX.dst)).getD []) (fun _=>true) j t:=by
   intro t ht
   refine pt (by omega) (fun i hi he=>?_) (fun i BS hi he=>?_)
   ·obtain ⟨x,ox,hx,kA⟩:=jE i (by omega)
    simp only [hx,Option.map_some,Option.getD_some]
    exact ht x ox (apart i x ox hx kA (by omega) (.inl ⟨hi,he⟩)).1
   ·rcases Nat.lt_or_eq_of_le BS with aK | rfl
    ·obtain ⟨x,ox,hx,kA⟩:=jE i hi
     simp only [hx,Option.map_some,Option.getD_some]
     exact ht x ox (apart i x ox hx kA (by omega) (.inr ⟨aK,he⟩)).1
    ·rw [D2] at he; cases he
  have fU:∀t,(∀(x:Rec) (ox:Oper),cU ops x (rs[j]'(by omega)) o=true→t ∉ keys x.aX.box)→acc κ0 (fun i=>(rs[i]?.map (·.aX.box)).getD []) (fun i=>listed.getD i false) ops.length t=acc κ0 (fun i=>(rs[i]?.map (·.aX.box)).getD []) (fun _=>true) j t:=by
   intro t ht
   refine pt (by omega) (fun i hi he=>?_) (fun i BS hi he=>?_)
   ·obtain ⟨x,ox,hx,kA⟩:=jE i (by omega)
    simp only [hx,Option.map_some,Option.getD_some]
    exact ht x ox (apart i x ox hx kA (by omega) (.inl ⟨hi,he⟩)).1
   ·rcases Nat.lt_or_eq_of_le BS with aK | rfl
    ·obtain ⟨x,ox,hx,kA⟩:=jE i hi
     simp only [hx,Option.map_some,Option.getD_some]
     exact ht x ox (apart i x ox hx kA (by omega) (.inr ⟨aK,he⟩)).1
    ·rw [D2] at he; cases he
  have vN:∀{x y:Rec} {oy:Oper},cU ops x y oy=true→iw (gO x.aX.dst) (oy.looksAt ops.toArray)=true∧iw (gO x.aX.dst) (gO y.aX.dst)=true∧iw (dH x.aX.box) y.rows=true∧iw (dH x.aX.box) y.aX.reads=true∧iw (dH x.aX.box) (dH y.aX.box)=true:=by
   intro x y oy h
   simp only [cU,Bool.and_eq_true] at h
   exact ⟨h.1.1.1.1,h.1.1.1.2,h.1.1.2,h.1.2,h.2⟩
  have ao:zC ops o (acc ρ0 (fun i=>(rs[i]?.map (·.aX.dst)).getD []) (fun _=>true) j) (acc ρ0 (fun i=>(rs[i]?.map (·.aX.dst)).getD []) (fun i=>listed.getD i false) ops.length)
    (acc κ0 (fun i=>(rs[i]?.map (·.aX.box)).getD []) (fun _=>true) j) (acc κ0 (fun i=>(rs[i]?.map (·.aX.box)).getD []) (fun i=>listed.getD i false) ops.length) (rs[j]'(by omega)).aX.reads (rs[j]'(by omega)).aX.box:=by
   refine ⟨fun t ht=>tH t fun x ox h hm=>?_,fun i hi=>fU i fun x ox h hm=>?_,fun i hi=>fU i fun x ox h hm=>?_,fun i b hb=>fU i fun x ox h hm=>?_⟩
   ·exact cr (vN h).1 t (by rw [j7]; exact hm) ht
   ·exact cr (vN h).2.2.1 i (by rw [cL]; exact hm) (by rw [Hf]; exact hi)
   ·exact cr (vN h).2.2.2.1 i (by rw [cL]; exact hm) hi
   ·exact cr (vN h).2.2.2.2 i (by rw [cL]; exact hm) (by rw [cL]; exact List.mem_map.2 ⟨(i,b),hb,rfl⟩)
  have aV:=qz F hF _ _ ao g a w ⟨c5,yc⟩ hs
  have iy:(fun i=>(listed.setIfInBounds j true).getD i false)=j5 (fun i=>listed.getD i false) j:=by
   funext i
   simp only [j5,Array.getD_eq_getD_getElem?]
   by_cases e:i=j
   ·subst e; simp [aN,vT]
   ·rw [if_neg e,Array.getElem?_setIfInBounds_ne (fun h=>e h.symm)]
  have next:∀a' w',St g n (aq (acc ρ0 (fun i=>(rs[i]?.map (·.aX.dst)).getD []) (fun i=>listed.getD i false) ops.length) (rs[j]'(by omega)).aX.dst) (aq (acc κ0 (fun i=>(rs[i]?.map (·.aX.box)).getD []) (fun i=>listed.getD i false) ops.length) (rs[j]'(by omega)).aX.box) a' w' →
    wpAnyIn F 0 P .any ops.toArray Q fuel (listed.setIfInBounds j true) a' w':=by
   intro a' w' dp
   refine ih _ a' w' (by simp [aN]) ?_ ?_ ?_
   ·rw [iy]
    have:=tD (E:=fun i=>listed.getD i false) D2 vT
    omega
   ·have Hg:∀i,(listed.setIfInBounds j true).getD i false=j5 (fun i=>listed.getD i false) j i:=fun i=>congrFun iy i
    intro i o' gL hi d hd
    rw [Hg] at hi ⊢
    have up:listed.getD d false=true→j5 (fun i=>listed.getD i false) j d=true:=fun h=>by
     by_cases e:d=j
     ·subst e; exact qA _ _
     ·rw [gy _ e]; exact h
    by_cases e:i=j
    ·subst e
     rw [ho] at gL; injection gL with gL; subst gL
     exact up (He d hd)
    ·rw [gy _ e] at hi
     exact up (jD i o' gL hi d hd)
   ·rw [iy]
    rw [pw (f:=ρ0) D2 vT (fun i h1 h2 h3 t ht=>?_),pw (f:=κ0) D2 vT (fun i h1 h2 h3 t ht=>?_)]
    ·simpa [D3] using dp
    ·obtain ⟨x,ox,hx,kA⟩:=jE i h2
     simp only [D3,hx,Option.map_some,Option.getD_some] at ht ⊢
     have h5:=cr (vN (apart i x ox hx kA (by omega) (.inr ⟨h1,h3⟩)).2).2.2.2.2 t (by rw [cL]; exact ht)
     rwa [cL] at h5
    ·obtain ⟨x,ox,hx,kA⟩:=jE i h2
     simp only [D3,hx,Option.map_some,Option.getD_some] at ht ⊢
     have h5:=cr (vN (apart i x ox hx kA (by omega) (.inr ⟨h1,h3⟩)).2).2.1 t (by rw [j7]; exact ht)
     rwa [j7] at h5
  unfold wpOpIn
  rw [show ops.toArray[j]?=some o by simpa using ho]
  unfold jP at aV
  simp only
  split at aV
  ·rename_i hw; rw [if_pos hw]; exact pq next aV
  ·rename_i hw; rw [if_neg hw]; exact ⟨fun f _=>hF.fn f,next _ _ aV⟩
theorem Cp (yc:C g) {F:Fence} (hF:fI F) {lo:Nat} (c5:g.m≤lo) {ρ0:Nat→AV} {κ0:Nat→ak} {rs:List Rec} {Q:Exit→Act→World→Prop} {sf:List (Nat × Nat)} {UW:Nat} (kN:tE ops rs sf UW=true) (hlen:rs.length=ops.length)
  (cZ:∀i r o,rs[i]?=some r→ops[i]?=some o→r.rows=eY (acc ρ0 (fun i=>(rs[i]?.map (·.aX.dst)).getD []) (fun _=>true) i) (acc κ0 (fun i=>(rs[i]?.map (·.aX.box)).getD []) (fun _=>true) i) o∧GC P C ops n lo o (acc ρ0 (fun i=>(rs[i]?.map (·.aX.dst)).getD []) (fun _=>true) i) (acc κ0 (fun i=>(rs[i]?.map (·.aX.box)).getD []) (fun _=>true) i) r.aX)
  (Pq:∀j x,(j,x)∈sf→∀r o,rs[j]?=some r→ops[j]?=some o→r.rows=eY (z7 ρ0 rs j) (v7 κ0 rs ops.length j x) o∧GC P C ops n lo o (z7 ρ0 rs j) (v7 κ0 rs ops.length j x) r.aX)
  (hQ:∀a w,St g n (acc ρ0 (fun i=>(rs[i]?.map (·.aX.dst)).getD []) (fun _=>true) ops.length) (acc κ0 (fun i=>(rs[i]?.map (·.aX.box)).getD []) (fun _=>true) ops.length) a w→Q .normal a w) :
  ∀(fuel:Nat) (listed:Array Bool) (a:Act) (w:World),listed.size=ops.length→py (fun i=>listed.getD i false) ops.length≤fuel →
   (∀i o,ops[i]?=some o→listed.getD i false=true→∀d,d∈pn o→listed.getD d false=true) →
   St g n (acc ρ0 (fun i=>(rs[i]?.map (·.aX.dst)).getD []) (fun i=>listed.getD i false) ops.length) (acc κ0 (fun i=>(rs[i]?.map (·.aX.box)).getD []) (fun i=>listed.getD i false) ops.length) a w →
   wpAnyIn F 0 P .any ops.toArray Q fuel listed a w:=by
 simp only [tE,Bool.and_eq_true] at kN
 obtain ⟨⟨⟨Aa,kN⟩,cT⟩,_⟩:=kN
 have tG:∀(q:Nat) (o:Oper),ops[q]?=some o→∀d,d∈pn o→d<ops.length:=fun q o ho d hd=>by
  have h1:=iT Aa ho d hd
  have h2:=(List.getElem?_eq_some_iff.1 ho).1
  omega
 have done:∀(listed:Array Bool) (a:Act) (w:World),(∀i,i<ops.length→listed.getD i false=true) →
   St g n (acc ρ0 (fun i=>(rs[i]?.map (·.aX.dst)).getD []) (fun i=>listed.getD i false) ops.length) (acc κ0 (fun i=>(rs[i]?.map (·.aX.box)).getD []) (fun i=>listed.getD i false) ops.length) a w→Q .normal a w:=by
  intro listed a w hl hs
  refine hQ a w ?_
  have e1:∀t,acc ρ0 (fun i=>(rs[i]?.map (·.aX.dst)).getD []) (fun i=>listed.getD i false) ops.length t=acc ρ0 (fun i=>(rs[i]?.map (·.aX.dst)).getD []) (fun _=>true) ops.length t :=
   fun t=>ni fun i hi he=>by rw [hl i hi] at he; cases he
  have e2:∀t,acc κ0 (fun i=>(rs[i]?.map (·.aX.box)).getD []) (fun i=>listed.getD i false) ops.length t=acc κ0 (fun i=>(rs[i]?.map (·.aX.box)).getD []) (fun _=>true) ops.length t :=
   fun t=>ni fun i hi he=>by rw [hl i hi] at he; cases he
  rw [←funext e1,←funext e2]
  exact hs
 have stuck:∀(listed:Array Bool),listed.size=ops.length→Region.ready .any ops.toArray listed=[]→∀i,i<ops.length→listed.getD i false=true:=by
  intro listed aN hr i
  induction i using Nat.strongRecOn with
  | _ i ih =>
   intro hi
   cases hl:listed.getD i false with
   | true=>rfl
   | false =>
    have ho:ops[i]?=some (ops[i]'hi):=List.getElem?_eq_getElem hi
    have:i∈Region.ready .any ops.toArray listed:=(mem_ready aN).2 ⟨_,ho,hl,fun d hd=>ih d (by have:=iT Aa ho d hd; omega) (tG i _ ho d hd)⟩
    rw [hr] at this; cases this
 intro fuel
 induction fuel with
 | zero =>
  intro listed a w aN hc jD hs
  have hl:=qB (E:=fun i=>listed.getD i false) (m:=ops.length) (by omega)
  refine ⟨?_,done listed a w hl hs⟩
  refine List.eq_nil_iff_forall_not_mem.2 fun i hi=>?_
  obtain ⟨o,ho,h1,_⟩:=(mem_ready aN).1 hi
  have:listed.getD i false=true:=hl i (List.getElem?_eq_some_iff.1 ho).1
  rw [h1] at this; cases this
 | succ fuel ih =>
  intro listed a w aN hc jD hs
  refine ⟨fun hr=>done listed a w (stuck listed aN hr) hs,fun j hj=>?_⟩
  obtain ⟨o,ho,D2,He⟩:=(mem_ready aN).1 hj
  have vT:j<ops.length:=(List.getElem?_eq_some_iff.1 ho).1
  have D3:rs[j]?=some (rs[j]'(by omega)):=List.getElem?_eq_getElem (by omega)
  obtain ⟨Hf,qz⟩:=cZ j _ o D3 ho
  have vN:∀{x y:Rec} {oy:Oper},cU ops x y oy=true→iw (gO x.aX.dst) (oy.looksAt ops.toArray)=true∧iw (gO x.aX.dst) (gO y.aX.dst)=true∧iw (dH x.aX.box) y.rows=true∧iw (dH x.aX.box) y.aX.reads=true∧iw (dH x.aX.box) (dH y.aX.box)=true:=by
   intro x y oy h
   simp only [cU,Bool.and_eq_true] at h
   exact ⟨h.1.1.1.1,h.1.1.1.2,h.1.1.2,h.1.2,h.2⟩
  have Q8:∀{x y:Rec} {oy:Oper},cU ops x y oy=true→me ops x y oy=true:=by
   intro x y oy h
   have:=vN h
   simp only [me,Bool.and_eq_true]
   exact ⟨this.1,this.2.1⟩
  have Ph:∀{y:Rec},wQ y=true→y.aX.box=[]:=by
   intro y h
   unfold wQ at h
   split at h
   ·assumption
   ·cases h
  have OS:∀(i:Nat) (x:Rec) (ox:Oper),rs[i]?=some x→ops[i]?=some ox→i ≠ j→(i<j∧listed.getD i false=false ∨ j<i∧listed.getD i false=true) →
    me ops x (rs[j]'(by omega)) o=true∧iw (gO (rs[j]'(by omega)).aX.dst) (gO x.aX.dst)=true∧iw (dH (rs[j]'(by omega)).aX.box) (dH x.aX.box)=true∧(cU ops x (rs[j]'(by omega)) o=true ∨ v5 j i sf=true):=by
   intro i x ox hx kA bA nO
   rcases nO with ⟨aK,M6⟩ | ⟨aK,M6⟩
   ·have h1:=ib kN D3 ho
    rw [Nat.zero_add] at h1
    rcases jS h1 hx kA (by omega) with hr | ⟨h2,h3⟩ | ⟨h2,h3,h4,h5⟩ | ⟨h2,h3,h4,h5⟩
    ·rw [Nat.zero_add] at hr
     have:listed.getD i false=true:=iV (E:=fun i=>listed.getD i false) jD ho hr He (tG j o ho) tG
     rw [M6] at this; cases this
    ·exact ⟨Q8 h2,(vN h3).2.1,(vN h3).2.2.2.2,.inl h2⟩
    ·rw [Nat.zero_add] at h2
     exact ⟨h3,(vN h5).2.1,(vN h5).2.2.2.2,.inr h2⟩
    ·simp only [me,Bool.and_eq_true] at h3
     exact ⟨Q8 h5,h3.2,by rw [Ph h4]; exact tF _,.inl h5⟩
   ·have h1:=ib kN hx kA
    rw [Nat.zero_add] at h1
    rcases jS h1 D3 ho (by omega) with hr | ⟨h2,h3⟩ | ⟨h2,h3,h4,h5⟩ | ⟨h2,h3,h4,h5⟩
    ·rw [Nat.zero_add] at hr
     have:listed.getD j false=true:=iV (E:=fun i=>listed.getD i false) jD kA hr (jD i ox kA M6) (tG i ox kA) tG
     rw [D2] at this; cases this
    ·exact ⟨Q8 h3,(vN h2).2.1,(vN h2).2.2.2.2,.inl h3⟩
    ·simp only [me,Bool.and_eq_true] at h3
     exact ⟨Q8 h5,h3.2,by rw [Ph h4]; exact tF _,.inl h5⟩
    ·rw [Nat.zero_add] at h2
     exact ⟨h3,(vN h5).2.1,(vN h5).2.2.2.2,.inr h2⟩
  have jE:∀i,i<ops.length→∃x ox,rs[i]?=some x∧ops[i]?=some ox:=fun i hi=>⟨_,_,List.getElem?_eq_getElem (by omega),List.getElem?_eq_getElem hi⟩
  have tH:∀t,(∀(x:Rec),me ops x (rs[j]'(by omega)) o=true→t ∉ keys x.aX.dst)→acc ρ0 (fun i=>(rs[i]?.map (·.aX.dst)).getD []) (fun i=>listed.getD i false) ops.length t=acc ρ0 (fun i=>(rs[i]?.map (·.aX.dst)).getD []) (fun _=>true) j t:=by
   intro t ht
   refine pt (by omega) (fun i hi he=>?_) (fun i BS hi he=>?_)
   ·obtain ⟨x,ox,hx,kA⟩:=jE i (by omega)
    simp only [hx,Option.map_some,Option.getD_some]
    exact ht x (OS i x ox hx kA (by omega) (.inl ⟨hi,he⟩)).1
   ·rcases Nat.lt_or_eq_of_le BS with aK | rfl
    ·obtain ⟨x,ox,hx,kA⟩:=jE i hi
     simp only [hx,Option.map_some,Option.getD_some]
     exact ht x (OS i x ox hx kA (by omega) (.inr ⟨aK,he⟩)).1
    ·rw [D2] at he; cases he
  have bl:∀t,t∈o.looksAt ops.toArray→acc ρ0 (fun i=>(rs[i]?.map (·.aX.dst)).getD []) (fun i=>listed.getD i false) ops.length t=acc ρ0 (fun i=>(rs[i]?.map (·.aX.dst)).getD []) (fun _=>true) j t:=fun t ht=>tH t fun x h hm=>by
   simp only [me,Bool.and_eq_true] at h
   exact cr h.1 t (by rw [j7]; exact hm) ht
  have aV:jP P F ops.toArray o a w fun a' w'=>St g n (aq (acc ρ0 (fun i=>(rs[i]?.map (·.aX.dst)).getD []) (fun i=>listed.getD i false) ops.length) (rs[j]'(by omega)).aX.dst) (aq (acc κ0 (fun i=>(rs[i]?.map (·.aX.box)).getD []) (fun i=>listed.getD i false) ops.length) (rs[j]'(by omega)).aX.box) a' w':=by
   by_cases hex:∃q,v5 j q sf=true∧q ≠ j∧q<ops.length∧(q<j∧listed.getD q false=false ∨ j<q∧listed.getD q false=true)
   ·-- with a harmless writer out of UX place
    obtain ⟨q,hq,WE,Hh,UY⟩:=hex
    obtain ⟨M7,Pr⟩:=Pq j q (pz hq) _ o D3 ho
    have fU:∀t,(∀(x:Rec) (ox:Oper),cU ops x (rs[j]'(by omega)) o=true→t ∉ keys x.aX.box)→acc κ0 (fun i=>(rs[i]?.map (·.aX.box)).getD []) (fun i=>listed.getD i false) ops.length t=v7 κ0 rs ops.length j q t:=by
     intro t ht
     refine wR fun i hi bA=>?_
     obtain ⟨x,ox,hx,kA⟩:=jE i hi
     simp only [hx,Option.map_some,Option.getD_some]
     by_cases R4:i=q
     ·exfalso
      subst R4
      apply bA
      simp only [R3,Nat.beq_refl,cond_true]
      rcases UY with ⟨h1,h2⟩ | ⟨h1,h2⟩
      ·rw [h2,show Nat.blt i j=true by rw [Nat.blt_eq]; exact h1]; rfl
      ·rw [h2,show Nat.blt i j=false by cases hb:Nat.blt i j with | false=>rfl | true=>rw [Nat.blt_eq] at hb; omega]; rfl
     ·have hb:Nat.beq i q=false:=by cases hb:Nat.beq i q with | false=>rfl | true=>exact absurd (Nat.eq_of_beq_eq_true hb) R4
      simp only [R3,hb,cond_false] at bA
      by_cases DQ:i=j
      ·subst DQ
       exfalso
       apply bA
       rw [D2]
       cases cl:Nat.blt i i with | false=>rfl | true=>rw [Nat.blt_eq] at cl; omega
      ·have nO:i<j∧listed.getD i false=false ∨ j<i∧listed.getD i false=true:=by
        rcases Nat.lt_or_gt_of_ne DQ with h | h
        ·left
         refine ⟨h,?_⟩
         rw [show Nat.blt i j=true by rw [Nat.blt_eq]; exact h] at bA
         simpa using bA
        ·right
         refine ⟨h,?_⟩
         rw [show Nat.blt i j=false by cases hb:Nat.blt i j with | false=>rfl | true=>rw [Nat.blt_eq] at hb; omega] at bA
         simpa using bA
       rcases (OS i x ox hx kA DQ nO).2.2.2 with h | h
       ·exact ht x ox h
       ·exact absurd (rO cT (pz h) (pz hq)) R4
    refine Pr F hF _ _ ⟨bl,fun i hi=>fU i fun x ox h hm=>?_,fun i hi=>fU i fun x ox h hm=>?_,fun i b hb=>fU i fun x ox h hm=>?_⟩ g a w ⟨c5,yc⟩ hs
    ·exact cr (vN h).2.2.1 i (by rw [cL]; exact hm) (by rw [M7]; exact hi)
    ·exact cr (vN h).2.2.2.1 i (by rw [cL]; exact hm) hi
    ·exact cr (vN h).2.2.2.2 i (by rw [cL]; exact hm) (by rw [cL]; exact List.mem_map.2 ⟨(i,b),hb,rfl⟩)
   ·have full:∀(i:Nat) (x:Rec) (ox:Oper),rs[i]?=some x→ops[i]?=some ox→i ≠ j→(i<j∧listed.getD i false=false ∨ j<i∧listed.getD i false=true)→cU ops x (rs[j]'(by omega)) o=true:=by
     intro i x ox hx kA bA nO
     rcases (OS i x ox hx kA bA nO).2.2.2 with h | h
     ·exact h
     ·exact absurd ⟨i,h,bA,(List.getElem?_eq_some_iff.1 kA).1,nO⟩ hex
    have fU:∀t,(∀(x:Rec) (ox:Oper),cU ops x (rs[j]'(by omega)) o=true→t ∉ keys x.aX.box)→acc κ0 (fun i=>(rs[i]?.map (·.aX.box)).getD []) (fun i=>listed.getD i false) ops.length t=acc κ0 (fun i=>(rs[i]?.map (·.aX.box)).getD []) (fun _=>true) j t:=by
     intro t ht
     refine pt (by omega) (fun i hi he=>?_) (fun i BS hi he=>?_)
     ·obtain ⟨x,ox,hx,kA⟩:=jE i (by omega)
      simp only [hx,Option.map_some,Option.getD_some]
      exact ht x ox (full i x ox hx kA (by omega) (.inl ⟨hi,he⟩))
     ·rcases Nat.lt_or_eq_of_le BS with aK | rfl
      ·obtain ⟨x,ox,hx,kA⟩:=jE i hi
       simp only [hx,Option.map_some,Option.getD_some]
       exact ht x ox (full i x ox hx kA (by omega) (.inr ⟨aK,he⟩))
      ·rw [D2] at he; cases he
    refine qz F hF _ _ ⟨bl,fun i hi=>fU i fun x ox h hm=>?_,fun i hi=>fU i fun x ox h hm=>?_,fun i b hb=>fU i fun x ox h hm=>?_⟩ g a w ⟨c5,yc⟩ hs
    ·exact cr (vN h).2.2.1 i (by rw [cL]; exact hm) (by rw [Hf]; exact hi)
    ·exact cr (vN h).2.2.2.1 i (by rw [cL]; exact hm) hi
    ·exact cr (vN h).2.2.2.2 i (by rw [cL]; exact hm) (by rw [cL]; exact List.mem_map.2 ⟨(i,b),hb,rfl⟩)
  have iy:(fun i=>(listed.setIfInBounds j true).getD i false)=j5 (fun i=>listed.getD i false) j:=by
   funext i
   simp only [j5,Array.getD_eq_getD_getElem?]
   by_cases e:i=j
   ·subst e; simp [aN,vT]
   ·rw [if_neg e,Array.getElem?_setIfInBounds_ne (fun h=>e h.symm)]
  have next:∀a' w',St g n (aq (acc ρ0 (fun i=>(rs[i]?.map (·.aX.dst)).getD []) (fun i=>listed.getD i false) ops.length) (rs[j]'(by omega)).aX.dst) (aq (acc κ0 (fun i=>(rs[i]?.map (·.aX.box)).getD []) (fun i=>listed.getD i false) ops.length) (rs[j]'(by omega)).aX.box) a' w' →
    wpAnyIn F 0 P .any ops.toArray Q fuel (listed.setIfInBounds j true) a' w':=by
   intro a' w' dp
   refine ih _ a' w' (by simp [aN]) ?_ ?_ ?_
   ·rw [iy]
    have:=tD (E:=fun i=>listed.getD i false) D2 vT
    omega
   ·have Hg:∀i,(listed.setIfInBounds j true).getD i false=j5 (fun i=>listed.getD i false) j i:=fun i=>congrFun iy i
    intro i o' gL hi d hd
    rw [Hg] at hi ⊢
    have up:listed.getD d false=true→j5 (fun i=>listed.getD i false) j d=true:=fun h=>by
     by_cases e:d=j
     ·subst e; exact qA _ _
     ·rw [gy _ e]; exact h
    by_cases e:i=j
    ·subst e
     rw [ho] at gL; injection gL with gL; subst gL
     exact up (He d hd)
    ·rw [gy _ e] at hi
     exact up (jD i o' gL hi d hd)
   ·rw [iy]
    rw [pw (f:=ρ0) D2 vT (fun i h1 h2 h3 t ht=>?_),pw (f:=κ0) D2 vT (fun i h1 h2 h3 t ht=>?_)]
    ·simpa [D3] using dp
    ·obtain ⟨x,ox,hx,kA⟩:=jE i h2
     simp only [D3,hx,Option.map_some,Option.getD_some] at ht ⊢
     have h5:=cr (OS i x ox hx kA (by omega) (.inr ⟨h1,h3⟩)).2.2.1 t (by rw [cL]; exact ht)
     rwa [cL] at h5
    ·obtain ⟨x,ox,hx,kA⟩:=jE i h2
     simp only [D3,hx,Option.map_some,Option.getD_some] at ht ⊢
     have h5:=cr (OS i x ox hx kA (by omega) (.inr ⟨h1,h3⟩)).2.1 t (by rw [j7]; exact ht)
     rwa [j7] at h5
  unfold wpOpIn
  rw [show ops.toArray[j]?=some o by simpa using ho]
  unfold jP at aV
  simp only
  split at aV
  ·rename_i hw; rw [if_pos hw]; exact pq next aV
  ·rename_i hw; rw [if_neg hw]; exact ⟨fun f _=>hF.fn f,next _ _ aV⟩
end
end Go.TM
