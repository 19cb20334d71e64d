import Derived.Test.YtpbdohkbiklflaaGreatDoorFM11
set_option linter.unusedVariables false
set_option linter.unusedSimpArgs false
set_option linter.unusedSectionVars false
namespace Go.TM
open Go.RowKit
variable [cu]
theorem cz:∀{l r:List Nat},iT l r=true→∀x,x∈l→x ∉ r
 | [],r,_,x,h=>by simp at h
 | y::l,r,h,x,hx=>by
  simp only [iT,Bool.and_eq_true,Bool.not_eq_true'] at h
  rcases List.mem_cons.1 hx with rfl | hx
  ·exact er h.1
  ·exact cz h.2 x hx
theorem kA (l:List (Nat × AV)):hU l=keys l:=by
 induction l with
 | nil=>rfl
 | cons p r ih=>simp [hU,keys,ih]
theorem cW (l:List (Nat × ao)):dP l=keys l:=by
 induction l with
 | nil=>rfl
 | cons p r ih=>simp [dP,keys,ih]
def qn (E:Nat→Bool):Nat→Nat
 | 0=>0
 | m+1=>(if E m then 0 else 1)+qn E m
theorem rI (E:Nat→Bool) (j:Nat):ku E j j=true:=by simp [ku]
theorem gO (E:Nat→Bool) {i j:Nat} (h:i ≠ j):ku E j i=E i:=by simp [ku,h]
theorem uX {E:Nat→Bool} {j:Nat} (hj:E j=false):∀{m:Nat},j<m→qn (ku E j) m+1=qn E m
 | 0,h=>by omega
 | m+1,h=>by
  rcases Nat.lt_or_ge j m with aK | dk
  ·have ih:=uX hj aK
   have e:=gO E (i:=m) (j:=j) (by omega)
   simp only [qn,e]
   omega
  ·have:j=m:=by omega
   subst this
   have low:∀q,q≤j→qn (ku E j) q=qn E q:=by
    intro q
    induction q with
    | zero=>intro _; rfl
    | succ q ih =>
     intro hq
     have e:=gO E (i:=q) (j:=j) (by omega)
     simp only [qn,e,ih (by omega)]
   have:=low j (Nat.le_refl _)
   simp only [qn,rI,hj,if_true,Bool.false_eq_true,if_false]
   omega
theorem rJ {E:Nat→Bool}:∀{m:Nat},qn E m=0→∀i,i<m→E i=true
 | 0,_,i,hi=>by omega
 | m+1,h,i,hi=>by
  simp only [qn] at h
  rcases Nat.lt_or_ge i m with aK | dk
  ·exact rJ (by omega) i aK
  ·have:i=m:=by omega
   subst this
   cases he:E i with
   | true=>rfl
   | false=>simp [he] at h
section
variable {ops:List Oper}
theorem js:∀{l:List Oper} {s:Nat},uT s l=true→∀{i:Nat} {o:Oper},l[i]?=some o→∀d,d∈qg o→d<s+i
 | [],s,_,i,o,h,_,_=>by simp at h
 | x::l,s,he,i,o,h,d,hd=>by
  simp only [uT,Bool.and_eq_true,List.all_eq_true] at he
  cases i with
  | zero=>simp at h; subst h; have:=he.1 d hd; rw [Nat.blt_eq] at this; omega
  | succ i=>have:=js he.2 (i:=i) (by simpa using h) d hd; omega
theorem lq {rs:List Rec} {j:Nat} {y:Rec} {oy:Oper}:∀{xr:List Rec} {xo:List Oper} {s:Nat},qh ops rs j y oy s xr xo=true→∀{i:Nat} {x:Rec} {ox:Oper},xr[i]?=some x→xo[i]?=some ox→s+i<j →
  mN ops ops.length (s+i) j=true ∨ (c8 ops x y oy=true∧c8 ops y x ox=true)
 | [],xo,s,_,i,x,ox,h,_,_=>by simp at h
 | _::_,[],s,_,i,x,ox,_,h,_=>by simp at h
 | a::xr,b::xo,s,hh,i,x,ox,h1,h2,aK=>by
  simp only [qh,Bool.and_eq_true] at hh
  cases i with
  | zero =>
   simp at h1 h2
   subst h1; subst h2
   have:=hh.1
   rw [show Nat.blt s j=true by rw [Nat.blt_eq]; omega] at this
   simpa using this
  | succ i =>
   have:=lq hh.2 (i:=i) (by simpa using h1) (by simpa using h2) (by omega)
   rw [show s+(i+1)=s+1+i by omega]; exact this
theorem jt {rs:List Rec}:∀{yr:List Rec} {yo:List Oper} {s:Nat},nY ops rs s yr yo=true→∀{j:Nat} {y:Rec} {oy:Oper},yr[j]?=some y→yo[j]?=some oy →
  qh ops rs (s+j) y oy 0 rs ops=true
 | [],yo,s,_,j,y,oy,h,_=>by simp at h
 | _::_,[],s,_,j,y,oy,_,h=>by simp at h
 | a::yr,b::yo,s,hh,j,y,oy,h1,h2=>by
  simp only [nY,Bool.and_eq_true] at hh
  cases j with
  | zero=>simp at h1 h2; subst h1; subst h2; exact hh.1
  | succ j =>
   have:=jt hh.2 (j:=j) (by simpa using h1) (by simpa using h2)
   rw [show s+(j+1)=s+1+j by omega]; exact this
theorem BD {o:Oper} {d:Nat}:d∈qg o ↔ ∃e,e∈o.after.toList∧Region.binds .any e=true∧e.on=d:=by
 unfold qg
 rw [List.mem_filterMap]
 constructor
 ·rintro ⟨e,he,h⟩
  cases hb:Region.binds .any e with
  | false=>rw [hb] at h; cases h
  | true=>rw [hb] at h; simp at h; exact ⟨e,he,hb,h⟩
 ·rintro ⟨e,he,hb,rfl⟩
  exact ⟨e,he,by rw [hb]; rfl⟩
theorem ju {E:Nat→Bool} (j3:∀i o,ops[i]?=some o→E i=true→∀d,d∈qg o→E d=true):∀{f i j:Nat} {o:Oper},ops[j]?=some o→mN ops f i j=true→(∀d,d∈qg o→E d=true)→(∀d,d∈qg o→d<ops.length)→(∀(q:Nat) (o:Oper),ops[q]?=some o→∀d,d∈qg o→d<ops.length)→E i=true
 | 0,i,j,o,_,h,_,_,_=>by simp [mN] at h
 | f+1,i,j,o,ho,h,hd,hl,db=>by
  simp only [mN,ho,List.any_eq_true,Bool.or_eq_true] at h
  obtain ⟨d,UF,h⟩:=h
  rcases h with h | h
  ·have:=Nat.eq_of_beq_eq_true h; subst this; exact hd d UF
  ·have aK:=hl d UF
   have UG:ops[d]?=some (ops[d]'aK):=List.getElem?_eq_getElem aK
   exact ju j3 UG h (j3 d _ UG (hd d UF)) (db d _ UG) db
theorem mem_ready {listed:Array Bool} {i:Nat} (aT:listed.size=ops.length):i∈Region.ready .any ops.toArray listed ↔ ∃o,ops[i]?=some o∧listed.getD i false=false∧∀d,d∈qg o→listed.getD d false=true:=by
 unfold Region.ready
 rw [List.mem_filter,List.mem_range]
 constructor
 ·rintro ⟨aK,h⟩
  have gh:i<ops.length:=by simpa using aK
  have ho:ops[i]?=some (ops[i]'gh):=List.getElem?_eq_getElem gh
  refine ⟨_,ho,?_,?_⟩
  ·simp only [Bool.and_eq_true,Bool.not_eq_true'] at h
   have h1:=h.1
   simp only [Array.getD_eq_getD_getElem?] at h1 ⊢
   rw [Array.getElem?_eq_getElem (by omega)] at h1 ⊢
   simpa using h1
  ·intro d hd
   simp only [Bool.and_eq_true] at h
   have h2:=h.2
   rw [show ops.toArray[i]?=some (ops[i]'gh) by simp] at h2
   simp only [Option.map_some,Option.getD_some,Array.all_eq_true'] at h2
   obtain ⟨e,he,hb,rfl⟩:=BD.1 hd
   have:=h2 e (by simpa using he)
   simpa [hb] using this
 ·rintro ⟨o,ho,h1,h2⟩
  have aK:i<ops.length:=(List.getElem?_eq_some_iff.1 ho).1
  refine ⟨by simpa using aK,?_⟩
  simp only [Bool.and_eq_true,Bool.not_eq_true']
  constructor
  ·simp only [Array.getD_eq_getD_getElem?] at h1 ⊢
   rw [Array.getElem?_eq_getElem (by omega)] at h1 ⊢
   simpa using h1
  ·rw [show ops.toArray[i]?=some o by simpa using ho]
   simp only [Option.map_some,Option.getD_some,Array.all_eq_true']
   intro e he
   cases hb:Region.binds .any e with
   | false=>rfl
   | true =>
    have:=h2 e.on (BD.2 ⟨e,by simpa using he,hb,rfl⟩)
    simpa using this
end
def mO (ops:List Oper) (x y:Rec) (oy:Oper):Bool:=iT (hU x.bf.dst) (oy.looksAt ops.toArray) && iT (hU x.bf.dst) (hU y.bf.dst)
def yb (y:Rec):Bool:=match y.bf.box with
 | []=>true
 | _=>false
def xA (j i:Nat):List (Nat × Nat)→Bool
 | []=>false
 | p::r=>(Nat.beq p.1 j && Nat.beq p.2 i) || xA j i r
def mP (ops:List Oper) (rs:List Rec) (sf:List (Nat × Nat)) (j:Nat) (y:Rec) (oy:Oper):Nat→List Rec→List Oper→Bool
 | i,x::xr,ox::or=>(bif Nat.blt i j then mN ops ops.length i j || (c8 ops x y oy && c8 ops y x ox) || (xA j i sf && mO ops x y oy && yb y && c8 ops y x ox) || (xA i j sf && mO ops y x ox && yb x && c8 ops x y oy) else true) && mP ops rs sf j y oy (i+1) xr or
 | _,_,_=>true
def lr (ops:List Oper) (rs:List Rec) (sf:List (Nat × Nat)):Nat→List Rec→List Oper→Bool
 | j,y::yr,oy::or=>mP ops rs sf j y oy 0 rs ops && lr ops rs sf (j+1) yr or
 | _,_,_=>true
def rK:List (Nat × Nat)→List Nat
 | []=>[]
 | p::r=>p.1::rK r
def n5 (nx:Nat):List Rec→Bool
 | []=>true
 | r::l=>(dP r.bf.box).all (fun i=>Nat.blt i nx) && n5 nx l
def uY (ops:List Oper) (rs:List Rec) (sf:List (Nat × Nat)) (nx:Nat):Bool:=uT 0 ops && lr ops rs sf 0 rs ops && eG (rK sf) && n5 nx rs
def UH (j x:Nat):Nat→Bool:=fun i=>bif Nat.beq i x then !Nat.blt i j else Nat.blt i j
def BE (ρ0:Nat→AV) (rs:List Rec) (j:Nat):Nat→AV:=acc ρ0 (fun i=>(rs[i]?.map (·.bf.dst)).getD []) (fun _=>true) j
def xB (κ0:Nat→ao) (rs:List Rec) (m j x:Nat):Nat→ao:=acc κ0 (fun i=>(rs[i]?.map (·.bf.box)).getD []) (UH j x) m
def Pt (P:Program) (T:List TI) (ops:List Oper) (n nx:Nat) (o:Oper) (ρ:Nat→AV) (κ:Nat→ao) (bf:jo):Prop:=ed P T→∀C:dw→Prop,cV P C→(∀i,nx≤i→κ i=.none)→Good P C ops n o nx ρ κ fun e _=>e=bf
def BF (P:Program) (T:List TI) (ops:List Oper) (n nx:Nat) (ρ0:Nat→AV) (κ0:Nat→ao) (rs:List Rec):List (Nat × Nat)→Prop
 | []=>True
 | (j,x)::r=>(match ops[j]?,rs[j]? with
  | some o,some rc=>rc.rows=fj (BE ρ0 rs j) (xB κ0 rs ops.length j x) o∧Pt P T ops n nx o (BE ρ0 rs j) (xB κ0 rs ops.length j x) rc.bf
  | _,_=>False)∧BF P T ops n nx ρ0 κ0 rs r
theorem uZ:∀l:List Nat,iT l []=true
 | []=>rfl
 | _::l=>by simp only [iT,fV,Bool.not_false,Bool.true_and]; exact uZ l
theorem qo {j i:Nat}:∀{sf:List (Nat × Nat)},xA j i sf=true→(j,i)∈sf
 | [],h=>by simp [xA] at h
 | p::r,h=>by
  simp only [xA,Bool.or_eq_true,Bool.and_eq_true] at h
  rcases h with ⟨h1,h2⟩ | h
  ·have e1:=Nat.eq_of_beq_eq_true h1
   have e2:=Nat.eq_of_beq_eq_true h2
   obtain ⟨a,b⟩:=p
   simp only at e1 e2
   subst e1; subst e2
   exact List.mem_cons_self
  ·exact List.mem_cons_of_mem _ (qo h)
theorem pb {j i:Nat}:∀{sf:List (Nat × Nat)},(j,i)∈sf→j∈rK sf
 | [],h=>by simp at h
 | p::r,h=>by
  simp only [rK]
  rcases List.mem_cons.1 h with rfl | h
  ·exact List.mem_cons_self
  ·exact List.mem_cons_of_mem _ (pb h)
theorem sW {j i i':Nat}:∀{sf:List (Nat × Nat)},eG (rK sf)=true→(j,i)∈sf→(j,i')∈sf→i=i'
 | [],_,h,_=>by simp at h
 | p::r,hn,h,h'=>by
  obtain ⟨Ht,XA⟩:=sX (i:=p.1) (r:=rK r) hn
  rcases List.mem_cons.1 h with h1 | h1
  ·rcases List.mem_cons.1 h' with h2 | h2
   ·have:=h1.trans h2.symm
    injection this
   ·subst h1; exact absurd (pb h2) Ht
  ·rcases List.mem_cons.1 h' with h2 | h2
   ·subst h2; exact absurd (pb h1) Ht
   ·exact sW XA h1 h2
theorem yc {γ:Type _} {f:Nat→γ} {wr:Nat→List (Nat × γ)} {E E':Nat→Bool} {t:Nat}:∀{len:Nat},(∀i,i<len→E i ≠ E' i→t ∉ keys (wr i))→acc f wr E len t=acc f wr E' len t
 | 0,_=>rfl
 | len+1,h=>by
  have ih:=yc (t:=t) (len:=len) (f:=f) (wr:=wr) (E:=E) (E':=E') fun i hi=>h i (by omega)
  simp only [acc]
  by_cases e:E len=E' len
  ·rw [e]
   cases E' len with
   | false=>simpa using ih
   | true =>
    simp only [if_true]
    by_cases hk:t∈keys (wr len)
    ·have key:∀(l:List (Nat × γ)),t∈keys l→∀g g':Nat→γ,aw g l t=aw g' l t:=by
      intro l
      induction l with
      | nil=>intro hk; simp [keys] at hk
      | cons p r XB =>
       intro hk g g'
       obtain ⟨i,x⟩:=p
       simp only [aw]
       by_cases e:t=i
       ·subst e; simp
       ·rw [ae _ _ e,ae _ _ e]
        refine XB ?_ g g'
        simp only [keys,List.map_cons,List.mem_cons] at hk
        rcases hk with rfl | hk
        ·exact absurd rfl e
        ·exact hk
     exact key _ hk _ _
    ·rw [ca _ hk,ca _ hk]; exact ih
  ·have hk:=h len (by omega) e
   have u1:(if E len=true then aw (acc f wr E len) (wr len) else acc f wr E len) t=acc f wr E len t:=by
    split
    ·exact ca _ hk
    ·rfl
   have u2:(if E' len=true then aw (acc f wr E' len) (wr len) else acc f wr E' len) t=acc f wr E' len t:=by
    split
    ·exact ca _ hk
    ·rfl
   rw [u1,u2]; exact ih
theorem ki {ops:List Oper} {rs:List Rec} {sf:List (Nat × Nat)} {j:Nat} {y:Rec} {oy:Oper}:∀{xr:List Rec} {xo:List Oper} {s:Nat},mP ops rs sf j y oy s xr xo=true→∀{i:Nat} {x:Rec} {ox:Oper},xr[i]?=some x→xo[i]?=some ox→s+i<j →
  mN ops ops.length (s+i) j=true ∨ (c8 ops x y oy=true∧c8 ops y x ox=true) ∨ (xA j (s+i) sf=true∧mO ops x y oy=true∧yb y=true∧c8 ops y x ox=true) ∨ (xA (s+i) j sf=true∧mO ops y x ox=true∧yb x=true∧c8 ops x y oy=true)
 | [],xo,s,_,i,x,ox,h,_,_=>by simp at h
 | _::_,[],s,_,i,x,ox,_,h,_=>by simp at h
 | a::xr,b::xo,s,hh,i,x,ox,h1,h2,aK=>by
  simp only [mP,Bool.and_eq_true] at hh
  cases i with
  | zero =>
   simp at h1 h2
   subst h1; subst h2
   have:=hh.1
   rw [show Nat.blt s j=true by rw [Nat.blt_eq]; omega] at this
   simp only [cond_true,Bool.or_eq_true,Bool.and_eq_true] at this
   rcases this with ((h | h) | h) | h
   ·exact .inl h
   ·exact .inr (.inl h)
   ·exact .inr (.inr (.inl ⟨h.1.1.1,h.1.1.2,h.1.2,h.2⟩))
   ·exact .inr (.inr (.inr ⟨h.1.1.1,h.1.1.2,h.1.2,h.2⟩))
  | succ i =>
   have:=ki hh.2 (i:=i) (by simpa using h1) (by simpa using h2) (by omega)
   rw [show s+(i+1)=s+1+i by omega]; exact this
theorem iD {ops:List Oper} {rs:List Rec} {sf:List (Nat × Nat)}:∀{yr:List Rec} {yo:List Oper} {s:Nat},lr ops rs sf s yr yo=true→∀{j:Nat} {y:Rec} {oy:Oper},yr[j]?=some y→yo[j]?=some oy →
  mP ops rs sf (s+j) y oy 0 rs ops=true
 | [],yo,s,_,j,y,oy,h,_=>by simp at h
 | _::_,[],s,_,j,y,oy,_,h=>by simp at h
 | a::yr,b::yo,s,hh,j,y,oy,h1,h2=>by
  simp only [lr,Bool.and_eq_true] at hh
  cases j with
  | zero=>simp at h1 h2; subst h1; subst h2; exact hh.1
  | succ j =>
   have:=iD hh.2 (j:=j) (by simpa using h1) (by simpa using h2)
   rw [show s+(j+1)=s+1+j by omega]; exact this
section
variable {P:Program} {C:dw→Prop} {ops:List Oper} {n:Nat} {g:dw}
theorem yd (zG:C g) {F:Fence} (hF:fU F) {lo:Nat} (dg:g.m≤lo) {ρ0:Nat→AV} {κ0:Nat→ao} {rs:List Rec} {Q:Exit→Act→World→Prop} (lu:rG ops rs=true) (hlen:rs.length=ops.length)
  (db:∀i r o,rs[i]?=some r→ops[i]?=some o→r.rows=fj (acc ρ0 (fun i=>(rs[i]?.map (·.bf.dst)).getD []) (fun _=>true) i) (acc κ0 (fun i=>(rs[i]?.map (·.bf.box)).getD []) (fun _=>true) i) o∧IU P C ops n lo o (acc ρ0 (fun i=>(rs[i]?.map (·.bf.dst)).getD []) (fun _=>true) i) (acc κ0 (fun i=>(rs[i]?.map (·.bf.box)).getD []) (fun _=>true) i) r.bf)
  (hQ:∀a w,St g n (acc ρ0 (fun i=>(rs[i]?.map (·.bf.dst)).getD []) (fun _=>true) ops.length) (acc κ0 (fun i=>(rs[i]?.map (·.bf.box)).getD []) (fun _=>true) ops.length) a w→Q .normal a w) :
  ∀(fuel:Nat) (listed:Array Bool) (a:Act) (w:World),listed.size=ops.length→qn (fun i=>listed.getD i false) ops.length≤fuel →
   (∀i o,ops[i]?=some o→listed.getD i false=true→∀d,d∈qg o→listed.getD d false=true) →
   St g n (acc ρ0 (fun i=>(rs[i]?.map (·.bf.dst)).getD []) (fun i=>listed.getD i false) ops.length) (acc κ0 (fun i=>(rs[i]?.map (·.bf.box)).getD []) (fun i=>listed.getD i false) ops.length) a w →
   wpAnyIn F 0 P .any ops.toArray Q fuel listed a w:=by
 simp only [rG,Bool.and_eq_true] at lu
 obtain ⟨BG,lu⟩:=lu
 have u4:∀(q:Nat) (o:Oper),ops[q]?=some o→∀d,d∈qg o→d<ops.length:=fun q o ho d hd=>by
  have h1:=js BG ho d hd
  have h2:=(List.getElem?_eq_some_iff.1 ho).1
  omega
 have done:∀(listed:Array Bool) (a:Act) (w:World),(∀i,i<ops.length→listed.getD i false=true) →
   St g n (acc ρ0 (fun i=>(rs[i]?.map (·.bf.dst)).getD []) (fun i=>listed.getD i false) ops.length) (acc κ0 (fun i=>(rs[i]?.map (·.bf.box)).getD []) (fun i=>listed.getD i false) ops.length) a w→Q .normal a w:=by
  intro listed a w hl hs
  refine hQ a w ?_
  have e1:∀t,acc ρ0 (fun i=>(rs[i]?.map (·.bf.dst)).getD []) (fun i=>listed.getD i false) ops.length t=acc ρ0 (fun i=>(rs[i]?.map (·.bf.dst)).getD []) (fun _=>true) ops.length t :=
   fun t=>n3 fun i hi he=>by rw [hl i hi] at he; cases he
  have e2:∀t,acc κ0 (fun i=>(rs[i]?.map (·.bf.box)).getD []) (fun i=>listed.getD i false) ops.length t=acc κ0 (fun i=>(rs[i]?.map (·.bf.box)).getD []) (fun _=>true) ops.length t :=
   fun t=>n3 fun i hi he=>by rw [hl i hi] at he; cases he
  rw [←funext e1,←funext e2]
  exact hs
 have stuck:∀(listed:Array Bool),listed.size=ops.length→Region.ready .any ops.toArray listed=[]→∀i,i<ops.length→listed.getD i false=true:=by
  intro listed aT hr i
  induction i using Nat.strongRecOn with
  | _ i ih =>
   intro hi
   cases hl:listed.getD i false with
   | true=>rfl
   | false =>
    have ho:ops[i]?=some (ops[i]'hi):=List.getElem?_eq_getElem hi
    have:i∈Region.ready .any ops.toArray listed:=(mem_ready aT).2 ⟨_,ho,hl,fun d hd=>ih d (by have:=js BG ho d hd; omega) (u4 i _ ho d hd)⟩
    rw [hr] at this; cases this
 intro fuel
 induction fuel with
 | zero =>
  intro listed a w aT hc j3 hs
  have hl:=rJ (E:=fun i=>listed.getD i false) (m:=ops.length) (by omega)
  refine ⟨?_,done listed a w hl hs⟩
  refine List.eq_nil_iff_forall_not_mem.2 fun i hi=>?_
  obtain ⟨o,ho,h1,_⟩:=(mem_ready aT).1 hi
  have:listed.getD i false=true:=hl i (List.getElem?_eq_some_iff.1 ho).1
  rw [h1] at this; cases this
 | succ fuel ih =>
  intro listed a w aT hc j3 hs
  refine ⟨fun hr=>done listed a w (stuck listed aT hr) hs,fun j hj=>?_⟩
  obtain ⟨o,ho,F2,Jo⟩:=(mem_ready aT).1 hj
  have xq:j<ops.length:=(List.getElem?_eq_some_iff.1 ho).1
  have F3:rs[j]?=some (rs[j]'(by omega)):=List.getElem?_eq_getElem (by omega)
  obtain ⟨Jp,rH⟩:=db j _ o F3 ho
  have apart:∀(i:Nat) (x:Rec) (ox:Oper),rs[i]?=some x→ops[i]?=some ox→i ≠ j→(i<j∧listed.getD i false=false ∨ j<i∧listed.getD i false=true)→c8 ops x (rs[j]'(by omega)) o=true∧c8 ops (rs[j]'(by omega)) x ox=true:=by
   intro i x ox hx la bD oJ
   rcases oJ with ⟨aK,Pu⟩ | ⟨aK,Pu⟩
   ·have h1:=jt lu F3 ho
    rw [Nat.zero_add] at h1
    rcases lq h1 hx la (by omega) with hr | hr
    ·rw [Nat.zero_add] at hr
     have:listed.getD i false=true:=ju (E:=fun i=>listed.getD i false) j3 ho hr Jo (u4 j o ho) u4
     rw [Pu] at this; cases this
    ·exact hr
   ·have h1:=jt lu hx la
    rw [Nat.zero_add] at h1
    rcases lq h1 F3 ho (by omega) with hr | hr
    ·rw [Nat.zero_add] at hr
     have:listed.getD j false=true:=ju (E:=fun i=>listed.getD i false) j3 la hr (j3 i ox la Pu) (u4 i ox la) u4
     rw [F2] at this; cases this
    ·exact ⟨hr.2,hr.1⟩
  have j4:∀i,i<ops.length→∃x ox,rs[i]?=some x∧ops[i]?=some ox:=fun i hi=>⟨_,_,List.getElem?_eq_getElem (by omega),List.getElem?_eq_getElem hi⟩
  have u5:∀t,(∀(x:Rec) (ox:Oper),c8 ops x (rs[j]'(by omega)) o=true→t ∉ keys x.bf.dst)→acc ρ0 (fun i=>(rs[i]?.map (·.bf.dst)).getD []) (fun i=>listed.getD i false) ops.length t=acc ρ0 (fun i=>(rs[i]?.map (·.bf.dst)).getD []) (fun _=>true) j t:=by
   intro t ht
   refine qj (by omega) (fun i hi he=>?_) (fun i DA hi he=>?_)
   ·obtain ⟨x,ox,hx,la⟩:=j4 i (by omega)
    simp only [hx,Option.map_some,Option.getD_some]
    exact ht x ox (apart i x ox hx la (by omega) (.inl ⟨hi,he⟩)).1
   ·rcases Nat.lt_or_eq_of_le DA with aK | rfl
    ·obtain ⟨x,ox,hx,la⟩:=j4 i hi
     simp only [hx,Option.map_some,Option.getD_some]
     exact ht x ox (apart i x ox hx la (by omega) (.inr ⟨aK,he⟩)).1
    ·rw [F2] at he; cases he
  have gj:∀t,(∀(x:Rec) (ox:Oper),c8 ops x (rs[j]'(by omega)) o=true→t ∉ keys x.bf.box)→acc κ0 (fun i=>(rs[i]?.map (·.bf.box)).getD []) (fun i=>listed.getD i false) ops.length t=acc κ0 (fun i=>(rs[i]?.map (·.bf.box)).getD []) (fun _=>true) j t:=by
   intro t ht
   refine qj (by omega) (fun i hi he=>?_) (fun i DA hi he=>?_)
   ·obtain ⟨x,ox,hx,la⟩:=j4 i (by omega)
    simp only [hx,Option.map_some,Option.getD_some]
    exact ht x ox (apart i x ox hx la (by omega) (.inl ⟨hi,he⟩)).1
   ·rcases Nat.lt_or_eq_of_le DA with aK | rfl
    ·obtain ⟨x,ox,hx,la⟩:=j4 i hi
     simp only [hx,Option.map_some,Option.getD_some]
     exact ht x ox (apart i x ox hx la (by omega) (.inr ⟨aK,he⟩)).1
    ·rw [F2] at he; cases he
  have xf:∀{x y:Rec} {oy:Oper},c8 ops x y oy=true→iT (hU x.bf.dst) (oy.looksAt ops.toArray)=true∧iT (hU x.bf.dst) (hU y.bf.dst)=true∧iT (dP x.bf.box) y.rows=true∧iT (dP x.bf.box) y.bf.reads=true∧iT (dP x.bf.box) (dP y.bf.box)=true:=by
   intro x y oy h
   simp only [c8,Bool.and_eq_true] at h
   exact ⟨h.1.1.1.1,h.1.1.1.2,h.1.1.2,h.1.2,h.2⟩
  have au:Bd ops o (acc ρ0 (fun i=>(rs[i]?.map (·.bf.dst)).getD []) (fun _=>true) j) (acc ρ0 (fun i=>(rs[i]?.map (·.bf.dst)).getD []) (fun i=>listed.getD i false) ops.length)
    (acc κ0 (fun i=>(rs[i]?.map (·.bf.box)).getD []) (fun _=>true) j) (acc κ0 (fun i=>(rs[i]?.map (·.bf.box)).getD []) (fun i=>listed.getD i false) ops.length) (rs[j]'(by omega)).bf.reads (rs[j]'(by omega)).bf.box:=by
   refine ⟨fun t ht=>u5 t fun x ox h hm=>?_,fun i hi=>gj i fun x ox h hm=>?_,fun i hi=>gj i fun x ox h hm=>?_,fun i b hb=>gj i fun x ox h hm=>?_⟩
   ·exact cz (xf h).1 t (by rw [kA]; exact hm) ht
   ·exact cz (xf h).2.2.1 i (by rw [cW]; exact hm) (by rw [Jp]; exact hi)
   ·exact cz (xf h).2.2.2.1 i (by rw [cW]; exact hm) hi
   ·exact cz (xf h).2.2.2.2 i (by rw [cW]; exact hm) (by rw [cW]; exact List.mem_map.2 ⟨(i,b),hb,rfl⟩)
  have bc:=rH F hF _ _ au g a w ⟨dg,zG⟩ hs
  have iU:(fun i=>(listed.setIfInBounds j true).getD i false)=ku (fun i=>listed.getD i false) j:=by
   funext i
   simp only [ku,Array.getD_eq_getD_getElem?]
   by_cases e:i=j
   ·subst e; simp [aT,xq]
   ·rw [if_neg e,Array.getElem?_setIfInBounds_ne (fun h=>e h.symm)]
  have next:∀a' w',St g n (aw (acc ρ0 (fun i=>(rs[i]?.map (·.bf.dst)).getD []) (fun i=>listed.getD i false) ops.length) (rs[j]'(by omega)).bf.dst) (aw (acc κ0 (fun i=>(rs[i]?.map (·.bf.box)).getD []) (fun i=>listed.getD i false) ops.length) (rs[j]'(by omega)).bf.box) a' w' →
    wpAnyIn F 0 P .any ops.toArray Q fuel (listed.setIfInBounds j true) a' w':=by
   intro a' w' dB
   refine ih _ a' w' (by simp [aT]) ?_ ?_ ?_
   ·rw [iU]
    have:=uX (E:=fun i=>listed.getD i false) F2 xq
    omega
   ·have Jq:∀i,(listed.setIfInBounds j true).getD i false=ku (fun i=>listed.getD i false) j i:=fun i=>congrFun iU i
    intro i o' g9 hi d hd
    rw [Jq] at hi ⊢
    have up:listed.getD d false=true→ku (fun i=>listed.getD i false) j d=true:=fun h=>by
     by_cases e:d=j
     ·subst e; exact rI _ _
     ·rw [gO _ e]; exact h
    by_cases e:i=j
    ·subst e
     rw [ho] at g9; injection g9 with g9; subst g9
     exact up (Jo d hd)
    ·rw [gO _ e] at hi
     exact up (j3 i o' g9 hi d hd)
   ·rw [iU]
    rw [qk (f:=ρ0) F2 xq (fun i h1 h2 h3 t ht=>?_),qk (f:=κ0) F2 xq (fun i h1 h2 h3 t ht=>?_)]
    ·simpa [F3] using dB
    ·obtain ⟨x,ox,hx,la⟩:=j4 i h2
     simp only [F3,hx,Option.map_some,Option.getD_some] at ht ⊢
     have h5:=cz (xf (apart i x ox hx la (by omega) (.inr ⟨h1,h3⟩)).2).2.2.2.2 t (by rw [cW]; exact ht)
     rwa [cW] at h5
    ·obtain ⟨x,ox,hx,la⟩:=j4 i h2
     simp only [F3,hx,Option.map_some,Option.getD_some] at ht ⊢
     have h5:=cz (xf (apart i x ox hx la (by omega) (.inr ⟨h1,h3⟩)).2).2.1 t (by rw [kA]; exact ht)
     rwa [kA] at h5
  unfold wpOpIn
  rw [show ops.toArray[j]?=some o by simpa using ho]
  unfold kf at bc
  simp only
  split at bc
  ·rename_i hw; rw [if_pos hw]; exact qi next bc
  ·rename_i hw; rw [if_neg hw]; exact ⟨fun f _=>hF.fn f,next _ _ bc⟩
theorem D7 (zG:C g) {F:Fence} (hF:fU F) {lo:Nat} (dg:g.m≤lo) {ρ0:Nat→AV} {κ0:Nat→ao} {rs:List Rec} {Q:Exit→Act→World→Prop} {sf:List (Nat × Nat)} {XD:Nat} (lu:uY ops rs sf XD=true) (hlen:rs.length=ops.length)
  (db:∀i r o,rs[i]?=some r→ops[i]?=some o→r.rows=fj (acc ρ0 (fun i=>(rs[i]?.map (·.bf.dst)).getD []) (fun _=>true) i) (acc κ0 (fun i=>(rs[i]?.map (·.bf.box)).getD []) (fun _=>true) i) o∧IU P C ops n lo o (acc ρ0 (fun i=>(rs[i]?.map (·.bf.dst)).getD []) (fun _=>true) i) (acc κ0 (fun i=>(rs[i]?.map (·.bf.box)).getD []) (fun _=>true) i) r.bf)
  (RQ:∀j x,(j,x)∈sf→∀r o,rs[j]?=some r→ops[j]?=some o→r.rows=fj (BE ρ0 rs j) (xB κ0 rs ops.length j x) o∧IU P C ops n lo o (BE ρ0 rs j) (xB κ0 rs ops.length j x) r.bf)
  (hQ:∀a w,St g n (acc ρ0 (fun i=>(rs[i]?.map (·.bf.dst)).getD []) (fun _=>true) ops.length) (acc κ0 (fun i=>(rs[i]?.map (·.bf.box)).getD []) (fun _=>true) ops.length) a w→Q .normal a w) :
  ∀(fuel:Nat) (listed:Array Bool) (a:Act) (w:World),listed.size=ops.length→qn (fun i=>listed.getD i false) ops.length≤fuel →
   (∀i o,ops[i]?=some o→listed.getD i false=true→∀d,d∈qg o→listed.getD d false=true) →
   St g n (acc ρ0 (fun i=>(rs[i]?.map (·.bf.dst)).getD []) (fun i=>listed.getD i false) ops.length) (acc κ0 (fun i=>(rs[i]?.map (·.bf.box)).getD []) (fun i=>listed.getD i false) ops.length) a w →
   wpAnyIn F 0 P .any ops.toArray Q fuel listed a w:=by
 simp only [uY,Bool.and_eq_true] at lu
 obtain ⟨⟨⟨BG,lu⟩,c6⟩,_⟩:=lu
 have u4:∀(q:Nat) (o:Oper),ops[q]?=some o→∀d,d∈qg o→d<ops.length:=fun q o ho d hd=>by
  have h1:=js BG ho d hd
  have h2:=(List.getElem?_eq_some_iff.1 ho).1
  omega
 have done:∀(listed:Array Bool) (a:Act) (w:World),(∀i,i<ops.length→listed.getD i false=true) →
   St g n (acc ρ0 (fun i=>(rs[i]?.map (·.bf.dst)).getD []) (fun i=>listed.getD i false) ops.length) (acc κ0 (fun i=>(rs[i]?.map (·.bf.box)).getD []) (fun i=>listed.getD i false) ops.length) a w→Q .normal a w:=by
  intro listed a w hl hs
  refine hQ a w ?_
  have e1:∀t,acc ρ0 (fun i=>(rs[i]?.map (·.bf.dst)).getD []) (fun i=>listed.getD i false) ops.length t=acc ρ0 (fun i=>(rs[i]?.map (·.bf.dst)).getD []) (fun _=>true) ops.length t :=
   fun t=>n3 fun i hi he=>by rw [hl i hi] at he; cases he
  have e2:∀t,acc κ0 (fun i=>(rs[i]?.map (·.bf.box)).getD []) (fun i=>listed.getD i false) ops.length t=acc κ0 (fun i=>(rs[i]?.map (·.bf.box)).getD []) (fun _=>true) ops.length t :=
   fun t=>n3 fun i hi he=>by rw [hl i hi] at he; cases he
  rw [←funext e1,←funext e2]
  exact hs
 have stuck:∀(listed:Array Bool),listed.size=ops.length→Region.ready .any ops.toArray listed=[]→∀i,i<ops.length→listed.getD i false=true:=by
  intro listed aT hr i
  induction i using Nat.strongRecOn with
  | _ i ih =>
   intro hi
   cases hl:listed.getD i false with
   | true=>rfl
   | false =>
    have ho:ops[i]?=some (ops[i]'hi):=List.getElem?_eq_getElem hi
    have:i∈Region.ready .any ops.toArray listed:=(mem_ready aT).2 ⟨_,ho,hl,fun d hd=>ih d (by have:=js BG ho d hd; omega) (u4 i _ ho d hd)⟩
    rw [hr] at this; cases this
 intro fuel
 induction fuel with
 | zero =>
  intro listed a w aT hc j3 hs
  have hl:=rJ (E:=fun i=>listed.getD i false) (m:=ops.length) (by omega)
  refine ⟨?_,done listed a w hl hs⟩
  refine List.eq_nil_iff_forall_not_mem.2 fun i hi=>?_
  obtain ⟨o,ho,h1,_⟩:=(mem_ready aT).1 hi
  have:listed.getD i false=true:=hl i (List.getElem?_eq_some_iff.1 ho).1
  rw [h1] at this; cases this
 | succ fuel ih =>
  intro listed a w aT hc j3 hs
  refine ⟨fun hr=>done listed a w (stuck listed aT hr) hs,fun j hj=>?_⟩
  obtain ⟨o,ho,F2,Jo⟩:=(mem_ready aT).1 hj
  have xq:j<ops.length:=(List.getElem?_eq_some_iff.1 ho).1
  have F3:rs[j]?=some (rs[j]'(by omega)):=List.getElem?_eq_getElem (by omega)
  obtain ⟨Jp,rH⟩:=db j _ o F3 ho
  have xf:∀{x y:Rec} {oy:Oper},c8 ops x y oy=true→iT (hU x.bf.dst) (oy.looksAt ops.toArray)=true∧iT (hU x.bf.dst) (hU y.bf.dst)=true∧iT (dP x.bf.box) y.rows=true∧iT (dP x.bf.box) y.bf.reads=true∧iT (dP x.bf.box) (dP y.bf.box)=true:=by
   intro x y oy h
   simp only [c8,Bool.and_eq_true] at h
   exact ⟨h.1.1.1.1,h.1.1.1.2,h.1.1.2,h.1.2,h.2⟩
  have TS:∀{x y:Rec} {oy:Oper},c8 ops x y oy=true→mO ops x y oy=true:=by
   intro x y oy h
   have:=xf h
   simp only [mO,Bool.and_eq_true]
   exact ⟨this.1,this.2.1⟩
  have RH:∀{y:Rec},yb y=true→y.bf.box=[]:=by
   intro y h
   unfold yb at h
   split at h
   ·assumption
   ·cases h
  have Ri:∀(i:Nat) (x:Rec) (ox:Oper),rs[i]?=some x→ops[i]?=some ox→i ≠ j→(i<j∧listed.getD i false=false ∨ j<i∧listed.getD i false=true) →
    mO ops x (rs[j]'(by omega)) o=true∧iT (hU (rs[j]'(by omega)).bf.dst) (hU x.bf.dst)=true∧iT (dP (rs[j]'(by omega)).bf.box) (dP x.bf.box)=true∧(c8 ops x (rs[j]'(by omega)) o=true ∨ xA j i sf=true):=by
   intro i x ox hx la bD oJ
   rcases oJ with ⟨aK,Pu⟩ | ⟨aK,Pu⟩
   ·have h1:=iD lu F3 ho
    rw [Nat.zero_add] at h1
    rcases ki h1 hx la (by omega) with hr | ⟨h2,h3⟩ | ⟨h2,h3,h4,h5⟩ | ⟨h2,h3,h4,h5⟩
    ·rw [Nat.zero_add] at hr
     have:listed.getD i false=true:=ju (E:=fun i=>listed.getD i false) j3 ho hr Jo (u4 j o ho) u4
     rw [Pu] at this; cases this
    ·exact ⟨TS h2,(xf h3).2.1,(xf h3).2.2.2.2,.inl h2⟩
    ·rw [Nat.zero_add] at h2
     exact ⟨h3,(xf h5).2.1,(xf h5).2.2.2.2,.inr h2⟩
    ·simp only [mO,Bool.and_eq_true] at h3
     exact ⟨TS h5,h3.2,by rw [RH h4]; exact uZ _,.inl h5⟩
   ·have h1:=iD lu hx la
    rw [Nat.zero_add] at h1
    rcases ki h1 F3 ho (by omega) with hr | ⟨h2,h3⟩ | ⟨h2,h3,h4,h5⟩ | ⟨h2,h3,h4,h5⟩
    ·rw [Nat.zero_add] at hr
     have:listed.getD j false=true:=ju (E:=fun i=>listed.getD i false) j3 la hr (j3 i ox la Pu) (u4 i ox la) u4
     rw [F2] at this; cases this
    ·exact ⟨TS h3,(xf h2).2.1,(xf h2).2.2.2.2,.inl h3⟩
    ·simp only [mO,Bool.and_eq_true] at h3
     exact ⟨TS h5,h3.2,by rw [RH h4]; exact uZ _,.inl h5⟩
    ·rw [Nat.zero_add] at h2
     exact ⟨h3,(xf h5).2.1,(xf h5).2.2.2.2,.inr h2⟩
  have j4:∀i,i<ops.length→∃x ox,rs[i]?=some x∧ops[i]?=some ox:=fun i hi=>⟨_,_,List.getElem?_eq_getElem (by omega),List.getElem?_eq_getElem hi⟩
  have u5:∀t,(∀(x:Rec),mO ops x (rs[j]'(by omega)) o=true→t ∉ keys x.bf.dst)→acc ρ0 (fun i=>(rs[i]?.map (·.bf.dst)).getD []) (fun i=>listed.getD i false) ops.length t=acc ρ0 (fun i=>(rs[i]?.map (·.bf.dst)).getD []) (fun _=>true) j t:=by
   intro t ht
   refine qj (by omega) (fun i hi he=>?_) (fun i DA hi he=>?_)
   ·obtain ⟨x,ox,hx,la⟩:=j4 i (by omega)
    simp only [hx,Option.map_some,Option.getD_some]
    exact ht x (Ri i x ox hx la (by omega) (.inl ⟨hi,he⟩)).1
   ·rcases Nat.lt_or_eq_of_le DA with aK | rfl
    ·obtain ⟨x,ox,hx,la⟩:=j4 i hi
     simp only [hx,Option.map_some,Option.getD_some]
     exact ht x (Ri i x ox hx la (by omega) (.inr ⟨aK,he⟩)).1
    ·rw [F2] at he; cases he
  have bt:∀t,t∈o.looksAt ops.toArray→acc ρ0 (fun i=>(rs[i]?.map (·.bf.dst)).getD []) (fun i=>listed.getD i false) ops.length t=acc ρ0 (fun i=>(rs[i]?.map (·.bf.dst)).getD []) (fun _=>true) j t:=fun t ht=>u5 t fun x h hm=>by
   simp only [mO,Bool.and_eq_true] at h
   exact cz h.1 t (by rw [kA]; exact hm) ht
  have bc:kf P F ops.toArray o a w fun a' w'=>St g n (aw (acc ρ0 (fun i=>(rs[i]?.map (·.bf.dst)).getD []) (fun i=>listed.getD i false) ops.length) (rs[j]'(by omega)).bf.dst) (aw (acc κ0 (fun i=>(rs[i]?.map (·.bf.box)).getD []) (fun i=>listed.getD i false) ops.length) (rs[j]'(by omega)).bf.box) a' w':=by
   by_cases hex:∃q,xA j q sf=true∧q ≠ j∧q<ops.length∧(q<j∧listed.getD q false=false ∨ j<q∧listed.getD q false=true)
   ·-- with a harmless writer out of XE place
    obtain ⟨q,hq,Zo,Jr,XF⟩:=hex
    obtain ⟨Pv,RR⟩:=RQ j q (qo hq) _ o F3 ho
    have gj:∀t,(∀(x:Rec) (ox:Oper),c8 ops x (rs[j]'(by omega)) o=true→t ∉ keys x.bf.box)→acc κ0 (fun i=>(rs[i]?.map (·.bf.box)).getD []) (fun i=>listed.getD i false) ops.length t=xB κ0 rs ops.length j q t:=by
     intro t ht
     refine yc fun i hi bD=>?_
     obtain ⟨x,ox,hx,la⟩:=j4 i hi
     simp only [hx,Option.map_some,Option.getD_some]
     by_cases UI:i=q
     ·exfalso
      subst UI
      apply bD
      simp only [UH,Nat.beq_refl,cond_true]
      rcases XF with ⟨h1,h2⟩ | ⟨h1,h2⟩
      ·rw [h2,show Nat.blt i j=true by rw [Nat.blt_eq]; exact h1]; rfl
      ·rw [h2,show Nat.blt i j=false by cases hb:Nat.blt i j with | false=>rfl | true=>rw [Nat.blt_eq] at hb; omega]; rfl
     ·have hb:Nat.beq i q=false:=by cases hb:Nat.beq i q with | false=>rfl | true=>exact absurd (Nat.eq_of_beq_eq_true hb) UI
      simp only [UH,hb,cond_false] at bD
      by_cases FQ:i=j
      ·subst FQ
       exfalso
       apply bD
       rw [F2]
       cases cw:Nat.blt i i with | false=>rfl | true=>rw [Nat.blt_eq] at cw; omega
      ·have oJ:i<j∧listed.getD i false=false ∨ j<i∧listed.getD i false=true:=by
        rcases Nat.lt_or_gt_of_ne FQ with h | h
        ·left
         refine ⟨h,?_⟩
         rw [show Nat.blt i j=true by rw [Nat.blt_eq]; exact h] at bD
         simpa using bD
        ·right
         refine ⟨h,?_⟩
         rw [show Nat.blt i j=false by cases hb:Nat.blt i j with | false=>rfl | true=>rw [Nat.blt_eq] at hb; omega] at bD
         simpa using bD
       rcases (Ri i x ox hx la FQ oJ).2.2.2 with h | h
       ·exact ht x ox h
       ·exact absurd (sW c6 (qo h) (qo hq)) UI
    refine RR F hF _ _ ⟨bt,fun i hi=>gj i fun x ox h hm=>?_,fun i hi=>gj i fun x ox h hm=>?_,fun i b hb=>gj i fun x ox h hm=>?_⟩ g a w ⟨dg,zG⟩ hs
    ·exact cz (xf h).2.2.1 i (by rw [cW]; exact hm) (by rw [Pv]; exact hi)
    ·exact cz (xf h).2.2.2.1 i (by rw [cW]; exact hm) hi
    ·exact cz (xf h).2.2.2.2 i (by rw [cW]; exact hm) (by rw [cW]; exact List.mem_map.2 ⟨(i,b),hb,rfl⟩)
   ·have full:∀(i:Nat) (x:Rec) (ox:Oper),rs[i]?=some x→ops[i]?=some ox→i ≠ j→(i<j∧listed.getD i false=false ∨ j<i∧listed.getD i false=true)→c8 ops x (rs[j]'(by omega)) o=true:=by
     intro i x ox hx la bD oJ
     rcases (Ri i x ox hx la bD oJ).2.2.2 with h | h
     ·exact h
     ·exact absurd ⟨i,h,bD,(List.getElem?_eq_some_iff.1 la).1,oJ⟩ hex
    have gj:∀t,(∀(x:Rec) (ox:Oper),c8 ops x (rs[j]'(by omega)) o=true→t ∉ keys x.bf.box)→acc κ0 (fun i=>(rs[i]?.map (·.bf.box)).getD []) (fun i=>listed.getD i false) ops.length t=acc κ0 (fun i=>(rs[i]?.map (·.bf.box)).getD []) (fun _=>true) j t:=by
     intro t ht
     refine qj (by omega) (fun i hi he=>?_) (fun i DA hi he=>?_)
     ·obtain ⟨x,ox,hx,la⟩:=j4 i (by omega)
      simp only [hx,Option.map_some,Option.getD_some]
      exact ht x ox (full i x ox hx la (by omega) (.inl ⟨hi,he⟩))
     ·rcases Nat.lt_or_eq_of_le DA with aK | rfl
      ·obtain ⟨x,ox,hx,la⟩:=j4 i hi
       simp only [hx,Option.map_some,Option.getD_some]
       exact ht x ox (full i x ox hx la (by omega) (.inr ⟨aK,he⟩))
      ·rw [F2] at he; cases he
    refine rH F hF _ _ ⟨bt,fun i hi=>gj i fun x ox h hm=>?_,fun i hi=>gj i fun x ox h hm=>?_,fun i b hb=>gj i fun x ox h hm=>?_⟩ g a w ⟨dg,zG⟩ hs
    ·exact cz (xf h).2.2.1 i (by rw [cW]; exact hm) (by rw [Jp]; exact hi)
    ·exact cz (xf h).2.2.2.1 i (by rw [cW]; exact hm) hi
    ·exact cz (xf h).2.2.2.2 i (by rw [cW]; exact hm) (by rw [cW]; exact List.mem_map.2 ⟨(i,b),hb,rfl⟩)
  have iU:(fun i=>(listed.setIfInBounds j true).getD i false)=ku (fun i=>listed.getD i false) j:=by
   funext i
   simp only [ku,Array.getD_eq_getD_getElem?]
   by_cases e:i=j
   ·subst e; simp [aT,xq]
   ·rw [if_neg e,Array.getElem?_setIfInBounds_ne (fun h=>e h.symm)]
  have next:∀a' w',St g n (aw (acc ρ0 (fun i=>(rs[i]?.map (·.bf.dst)).getD []) (fun i=>listed.getD i false) ops.length) (rs[j]'(by omega)).bf.dst) (aw (acc κ0 (fun i=>(rs[i]?.map (·.bf.box)).getD []) (fun i=>listed.getD i false) ops.length) (rs[j]'(by omega)).bf.box) a' w' →
    wpAnyIn F 0 P .any ops.toArray Q fuel (listed.setIfInBounds j true) a' w':=by
   intro a' w' dB
   refine ih _ a' w' (by simp [aT]) ?_ ?_ ?_
   ·rw [iU]
    have:=uX (E:=fun i=>listed.getD i false) F2 xq
    omega
   ·have Jq:∀i,(listed.setIfInBounds j true).getD i false=ku (fun i=>listed.getD i false) j i:=fun i=>congrFun iU i
    intro i o' g9 hi d hd
    rw [Jq] at hi ⊢
    have up:listed.getD d false=true→ku (fun i=>listed.getD i false) j d=true:=fun h=>by
     by_cases e:d=j
     ·subst e; exact rI _ _
     ·rw [gO _ e]; exact h
    by_cases e:i=j
    ·subst e
     rw [ho] at g9; injection g9 with g9; subst g9
     exact up (Jo d hd)
    ·rw [gO _ e] at hi
     exact up (j3 i o' g9 hi d hd)
   ·rw [iU]
    rw [qk (f:=ρ0) F2 xq (fun i h1 h2 h3 t ht=>?_),qk (f:=κ0) F2 xq (fun i h1 h2 h3 t ht=>?_)]
    ·simpa [F3] using dB
    ·obtain ⟨x,ox,hx,la⟩:=j4 i h2
     simp only [F3,hx,Option.map_some,Option.getD_some] at ht ⊢
     have h5:=cz (Ri i x ox hx la (by omega) (.inr ⟨h1,h3⟩)).2.2.1 t (by rw [cW]; exact ht)
     rwa [cW] at h5
    ·obtain ⟨x,ox,hx,la⟩:=j4 i h2
     simp only [F3,hx,Option.map_some,Option.getD_some] at ht ⊢
     have h5:=cz (Ri i x ox hx la (by omega) (.inr ⟨h1,h3⟩)).2.1 t (by rw [kA]; exact ht)
     rwa [kA] at h5
  unfold wpOpIn
  rw [show ops.toArray[j]?=some o by simpa using ho]
  unfold kf at bc
  simp only
  split at bc
  ·rename_i hw; rw [if_pos hw]; exact qi next bc
  ·rename_i hw; rw [if_neg hw]; exact ⟨fun f _=>hF.fn f,next _ _ bc⟩
end
end Go.TM
