import Derived.Test.YtpbdohkbiklflaaGreatDoorNM11
set_option linter.unusedVariables false
set_option linter.unusedSimpArgs false
set_option linter.unusedSectionVars false
namespace Go.TM
open Go.RowKit
variable [Glob]
theorem disj_spec:∀{l r:List Nat},disj l r=true→∀x,x∈l→x ∉ r
 | [],r,_,x,h=>by simp at h
 | y::l,r,h,x,hx=>by
  simp only [disj,Bool.and_eq_true,Bool.not_eq_true'] at h
  rcases List.mem_cons.1 hx with rfl | hx
  ·exact memN_false h.1
  ·exact disj_spec h.2 x hx
theorem keysE_eq (l:List (Nat × AV)):keysE l=keys l:=by
 induction l with
 | nil=>rfl
 | cons p r ih=>simp [keysE,keys,ih]
theorem keysB_eq (l:List (Nat × Box)):keysB l=keys l:=by
 induction l with
 | nil=>rfl
 | cons p r ih=>simp [keysB,keys,ih]
def cntf (E:Nat→Bool):Nat→Nat
 | 0=>0
 | m+1=>(if E m then 0 else 1)+cntf E m
theorem setE_same (E:Nat→Bool) (j:Nat):setE E j j=true:=by simp [setE]
theorem setE_other (E:Nat→Bool) {i j:Nat} (h:i ≠ j):setE E j i=E i:=by simp [setE,h]
theorem cntf_set {E:Nat→Bool} {j:Nat} (hj:E j=false):∀{m:Nat},j<m→cntf (setE E j) m+1=cntf E m
 | 0,h=>by omega
 | m+1,h=>by
  rcases Nat.lt_or_ge j m with hlt | hge
  ·have ih:=cntf_set hj hlt
   have e:=setE_other E (i:=m) (j:=j) (by omega)
   simp only [cntf,e]
   omega
  ·have:j=m:=by omega
   subst this
   have low:∀q,q≤j→cntf (setE E j) q=cntf E q:=by
    intro q
    induction q with
    | zero=>intro _; rfl
    | succ q ih =>
     intro hq
     have e:=setE_other E (i:=q) (j:=j) (by omega)
     simp only [cntf,e,ih (by omega)]
   have:=low j (Nat.le_refl _)
   simp only [cntf,setE_same,hj,if_true,Bool.false_eq_true,if_false]
   omega
theorem cntf_zero {E:Nat→Bool}:∀{m:Nat},cntf E m=0→∀i,i<m→E i=true
 | 0,_,i,hi=>by omega
 | m+1,h,i,hi=>by
  simp only [cntf] at h
  rcases Nat.lt_or_ge i m with hlt | hge
  ·exact cntf_zero (by omega) i hlt
  ·have:i=m:=by omega
   subst this
   cases he:E i with
   | true=>rfl
   | false=>simp [he] at h
section
variable {ops:List Oper}
theorem edges_spec:∀{l:List Oper} {s:Nat},edgesB s l=true→∀{i:Nat} {o:Oper},l[i]?=some o→∀d,d∈deps o→d<s+i
 | [],s,_,i,o,h,_,_=>by simp at h
 | x::l,s,he,i,o,h,d,hd=>by
  simp only [edgesB,Bool.and_eq_true,List.all_eq_true] at he
  cases i with
  | zero=>simp at h; subst h; have:=he.1 d hd; rw [Nat.blt_eq] at this; omega
  | succ i=>have:=edges_spec he.2 (i:=i) (by simpa using h) d hd; omega
theorem indepAt_spec {rs:List Rec} {j:Nat} {y:Rec} {oy:Oper}:∀{xr:List Rec} {xo:List Oper} {s:Nat},indepAt ops rs j y oy s xr xo=true→∀{i:Nat} {x:Rec} {ox:Oper},xr[i]?=some x→xo[i]?=some ox→s+i<j →
  reachB ops ops.length (s+i) j=true ∨ (apartB ops x y oy=true∧apartB ops y x ox=true)
 | [],xo,s,_,i,x,ox,h,_,_=>by simp at h
 | _::_,[],s,_,i,x,ox,_,h,_=>by simp at h
 | a::xr,b::xo,s,hh,i,x,ox,h1,h2,hlt=>by
  simp only [indepAt,Bool.and_eq_true] at hh
  cases i with
  | zero =>
   simp at h1 h2
   subst h1; subst h2
   have:=hh.1
   rw [show Nat.blt s j=true by rw [Nat.blt_eq]; omega] at this
   simpa using this
  | succ i =>
   have:=indepAt_spec hh.2 (i:=i) (by simpa using h1) (by simpa using h2) (by omega)
   rw [show s+(i+1)=s+1+i by omega]; exact this
theorem indepFrom_spec {rs:List Rec}:∀{yr:List Rec} {yo:List Oper} {s:Nat},indepFrom ops rs s yr yo=true→∀{j:Nat} {y:Rec} {oy:Oper},yr[j]?=some y→yo[j]?=some oy →
  indepAt ops rs (s+j) y oy 0 rs ops=true
 | [],yo,s,_,j,y,oy,h,_=>by simp at h
 | _::_,[],s,_,j,y,oy,_,h=>by simp at h
 | a::yr,b::yo,s,hh,j,y,oy,h1,h2=>by
  simp only [indepFrom,Bool.and_eq_true] at hh
  cases j with
  | zero=>simp at h1 h2; subst h1; subst h2; exact hh.1
  | succ j =>
   have:=indepFrom_spec hh.2 (j:=j) (by simpa using h1) (by simpa using h2)
   rw [show s+(j+1)=s+1+j by omega]; exact this
theorem mem_deps {o:Oper} {d:Nat}:d∈deps o ↔ ∃e,e∈o.after.toList∧Region.binds .any e=true∧e.on=d:=by
 unfold deps
 rw [List.mem_filterMap]
 constructor
 ·rintro ⟨e,he,h⟩
  cases hb:Region.binds .any e with
  | false=>rw [hb] at h; cases h
  | true=>rw [hb] at h; simp at h; exact ⟨e,he,hb,h⟩
 ·rintro ⟨e,he,hb,rfl⟩
  exact ⟨e,he,by rw [hb]; rfl⟩
theorem reach_deps {E:Nat→Bool} (hdown:∀i o,ops[i]?=some o→E i=true→∀d,d∈deps o→E d=true):∀{f i j:Nat} {o:Oper},ops[j]?=some o→reachB ops f i j=true→(∀d,d∈deps o→E d=true)→(∀d,d∈deps o→d<ops.length)→(∀(q:Nat) (o:Oper),ops[q]?=some o→∀d,d∈deps o→d<ops.length)→E i=true
 | 0,i,j,o,_,h,_,_,_=>by simp [reachB] at h
 | f+1,i,j,o,ho,h,hd,hl,hall=>by
  simp only [reachB,ho,List.any_eq_true,Bool.or_eq_true] at h
  obtain ⟨d,hdm,h⟩:=h
  rcases h with h | h
  ·have:=Nat.eq_of_beq_eq_true h; subst this; exact hd d hdm
  ·have hlt:=hl d hdm
   have hod:ops[d]?=some (ops[d]'hlt):=List.getElem?_eq_getElem hlt
   exact reach_deps hdown hod h (hdown d _ hod (hd d hdm)) (hall d _ hod) hall
theorem mem_ready {listed:Array Bool} {i:Nat} (hsz:listed.size=ops.length):i∈Region.ready .any ops.toArray listed ↔ ∃o,ops[i]?=some o∧listed.getD i false=false∧∀d,d∈deps o→listed.getD d false=true:=by
 unfold Region.ready
 rw [List.mem_filter,List.mem_range]
 constructor
 ·rintro ⟨hlt,h⟩
  have hlt':i<ops.length:=by simpa using hlt
  have ho:ops[i]?=some (ops[i]'hlt'):=List.getElem?_eq_getElem hlt'
  refine ⟨_,ho,?_,?_⟩
  ·simp only [Bool.and_eq_true,Bool.not_eq_true'] at h
   have h1:=h.1
   simp only [Array.getD_eq_getD_getElem?] at h1 ⊢
   rw [Array.getElem?_eq_getElem (by omega)] at h1 ⊢
   simpa using h1
  ·intro d hd
   simp only [Bool.and_eq_true] at h
   have h2:=h.2
   rw [show ops.toArray[i]?=some (ops[i]'hlt') by simp] at h2
   simp only [Option.map_some,Option.getD_some,Array.all_eq_true'] at h2
   obtain ⟨e,he,hb,rfl⟩:=mem_deps.1 hd
   have:=h2 e (by simpa using he)
   simpa [hb] using this
 ·rintro ⟨o,ho,h1,h2⟩
  have hlt:i<ops.length:=(List.getElem?_eq_some_iff.1 ho).1
  refine ⟨by simpa using hlt,?_⟩
  simp only [Bool.and_eq_true,Bool.not_eq_true']
  constructor
  ·simp only [Array.getD_eq_getD_getElem?] at h1 ⊢
   rw [Array.getElem?_eq_getElem (by omega)] at h1 ⊢
   simpa using h1
  ·rw [show ops.toArray[i]?=some o by simpa using ho]
   simp only [Option.map_some,Option.getD_some,Array.all_eq_true']
   intro e he
   cases hb:Region.binds .any e with
   | false=>rfl
   | true =>
    have:=h2 e.on (mem_deps.2 ⟨e,by simpa using he,hb,rfl⟩)
    simpa using this
end
def slotB (ops:List Oper) (x y:Rec) (oy:Oper):Bool:=disj (keysE x.eff.dst) (oy.looksAt ops.toArray) && disj (keysE x.eff.dst) (keysE y.eff.dst)
def noBox (y:Rec):Bool:=match y.eff.box with
 | []=>true
 | _=>false
def memP (j i:Nat):List (Nat × Nat)→Bool
 | []=>false
 | p::r=>(Nat.beq p.1 j && Nat.beq p.2 i) || memP j i r
def indepAtS (ops:List Oper) (rs:List Rec) (sf:List (Nat × Nat)) (j:Nat) (y:Rec) (oy:Oper):Nat→List Rec→List Oper→Bool
 | i,x::xr,ox::or=>(bif Nat.blt i j then reachB ops ops.length i j || (apartB ops x y oy && apartB ops y x ox) || (memP j i sf && slotB ops x y oy && noBox y && apartB ops y x ox) || (memP i j sf && slotB ops y x ox && noBox x && apartB ops x y oy) else true) && indepAtS ops rs sf j y oy (i+1) xr or
 | _,_,_=>true
def indepFromS (ops:List Oper) (rs:List Rec) (sf:List (Nat × Nat)):Nat→List Rec→List Oper→Bool
 | j,y::yr,oy::or=>indepAtS ops rs sf j y oy 0 rs ops && indepFromS ops rs sf (j+1) yr or
 | _,_,_=>true
def firsts:List (Nat × Nat)→List Nat
 | []=>[]
 | p::r=>p.1::firsts r
def keysLtR (nx:Nat):List Rec→Bool
 | []=>true
 | r::l=>(keysB r.eff.box).all (fun i=>Nat.blt i nx) && keysLtR nx l
def indepS (ops:List Oper) (rs:List Rec) (sf:List (Nat × Nat)) (nx:Nat):Bool:=edgesB 0 ops && indepFromS ops rs sf 0 rs ops && nodupN (firsts sf) && keysLtR nx rs
def swE (j x:Nat):Nat→Bool:=fun i=>bif Nat.beq i x then !Nat.blt i j else Nat.blt i j
def accD (ρ0:Nat→AV) (rs:List Rec) (j:Nat):Nat→AV:=acc ρ0 (fun i=>(rs[i]?.map (·.eff.dst)).getD []) (fun _=>true) j
def accS (κ0:Nat→Box) (rs:List Rec) (m j x:Nat):Nat→Box:=acc κ0 (fun i=>(rs[i]?.map (·.eff.box)).getD []) (swE j x) m
def SoftOk (P:Program) (T:List TI) (ops:List Oper) (n nx:Nat) (o:Oper) (ρ:Nat→AV) (κ:Nat→Box) (eff:Eff):Prop:=TOk P T→∀C:Org→Prop,CallsSnd P C→(∀i,nx≤i→κ i=.none)→Good P C ops n o nx ρ κ fun e _=>e=eff
def softQ (P:Program) (T:List TI) (ops:List Oper) (n nx:Nat) (ρ0:Nat→AV) (κ0:Nat→Box) (rs:List Rec):List (Nat × Nat)→Prop
 | []=>True
 | (j,x)::r=>(match ops[j]?,rs[j]? with
  | some o,some rc=>rc.rows=ridk (accD ρ0 rs j) (accS κ0 rs ops.length j x) o∧SoftOk P T ops n nx o (accD ρ0 rs j) (accS κ0 rs ops.length j x) rc.eff
  | _,_=>False)∧softQ P T ops n nx ρ0 κ0 rs r
theorem disj_nil:∀l:List Nat,disj l []=true
 | []=>rfl
 | _::l=>by simp only [disj,memN,Bool.not_false,Bool.true_and]; exact disj_nil l
theorem memP_mem {j i:Nat}:∀{sf:List (Nat × Nat)},memP j i sf=true→(j,i)∈sf
 | [],h=>by simp [memP] at h
 | p::r,h=>by
  simp only [memP,Bool.or_eq_true,Bool.and_eq_true] at h
  rcases h with ⟨h1,h2⟩ | h
  ·have e1:=Nat.eq_of_beq_eq_true h1
   have e2:=Nat.eq_of_beq_eq_true h2
   obtain ⟨a,b⟩:=p
   simp only at e1 e2
   subst e1; subst e2
   exact List.mem_cons_self
  ·exact List.mem_cons_of_mem _ (memP_mem h)
theorem firsts_mem {j i:Nat}:∀{sf:List (Nat × Nat)},(j,i)∈sf→j∈firsts sf
 | [],h=>by simp at h
 | p::r,h=>by
  simp only [firsts]
  rcases List.mem_cons.1 h with rfl | h
  ·exact List.mem_cons_self
  ·exact List.mem_cons_of_mem _ (firsts_mem h)
theorem firsts_uniq {j i i':Nat}:∀{sf:List (Nat × Nat)},nodupN (firsts sf)=true→(j,i)∈sf→(j,i')∈sf→i=i'
 | [],_,h,_=>by simp at h
 | p::r,hn,h,h'=>by
  obtain ⟨hn1,hn2⟩:=nodupN_cons (i:=p.1) (r:=firsts r) hn
  rcases List.mem_cons.1 h with h1 | h1
  ·rcases List.mem_cons.1 h' with h2 | h2
   ·have:=h1.trans h2.symm
    injection this
   ·subst h1; exact absurd (firsts_mem h2) hn1
  ·rcases List.mem_cons.1 h' with h2 | h2
   ·subst h2; exact absurd (firsts_mem h1) hn1
   ·exact firsts_uniq hn2 h1 h2
theorem acc_agree {γ:Type _} {f:Nat→γ} {wr:Nat→List (Nat × γ)} {E E':Nat→Bool} {t:Nat}:∀{len:Nat},(∀i,i<len→E i ≠ E' i→t ∉ keys (wr i))→acc f wr E len t=acc f wr E' len t
 | 0,_=>rfl
 | len+1,h=>by
  have ih:=acc_agree (t:=t) (len:=len) (f:=f) (wr:=wr) (E:=E) (E':=E') fun i hi=>h i (by omega)
  simp only [acc]
  by_cases e:E len=E' len
  ·rw [e]
   cases E' len with
   | false=>simpa using ih
   | true =>
    simp only [if_true]
    by_cases hk:t∈keys (wr len)
    ·have key:∀(l:List (Nat × γ)),t∈keys l→∀g g':Nat→γ,updl g l t=updl g' l t:=by
      intro l
      induction l with
      | nil=>intro hk; simp [keys] at hk
      | cons p r ihr =>
       intro hk g g'
       obtain ⟨i,x⟩:=p
       simp only [updl]
       by_cases e:t=i
       ·subst e; simp
       ·rw [upd_other _ _ e,upd_other _ _ e]
        refine ihr ?_ g g'
        simp only [keys,List.map_cons,List.mem_cons] at hk
        rcases hk with rfl | hk
        ·exact absurd rfl e
        ·exact hk
     exact key _ hk _ _
    ·rw [updl_notin _ hk,updl_notin _ hk]; exact ih
  ·have hk:=h len (by omega) e
   have u1:(if E len=true then updl (acc f wr E len) (wr len) else acc f wr E len) t=acc f wr E len t:=by
    split
    ·exact updl_notin _ hk
    ·rfl
   have u2:(if E' len=true then updl (acc f wr E' len) (wr len) else acc f wr E' len) t=acc f wr E' len t:=by
    split
    ·exact updl_notin _ hk
    ·rfl
   rw [u1,u2]; exact ih
theorem indepAtS_spec {ops:List Oper} {rs:List Rec} {sf:List (Nat × Nat)} {j:Nat} {y:Rec} {oy:Oper}:∀{xr:List Rec} {xo:List Oper} {s:Nat},indepAtS ops rs sf j y oy s xr xo=true→∀{i:Nat} {x:Rec} {ox:Oper},xr[i]?=some x→xo[i]?=some ox→s+i<j →
  reachB ops ops.length (s+i) j=true ∨ (apartB ops x y oy=true∧apartB ops y x ox=true) ∨ (memP j (s+i) sf=true∧slotB ops x y oy=true∧noBox y=true∧apartB ops y x ox=true) ∨ (memP (s+i) j sf=true∧slotB ops y x ox=true∧noBox x=true∧apartB ops x y oy=true)
 | [],xo,s,_,i,x,ox,h,_,_=>by simp at h
 | _::_,[],s,_,i,x,ox,_,h,_=>by simp at h
 | a::xr,b::xo,s,hh,i,x,ox,h1,h2,hlt=>by
  simp only [indepAtS,Bool.and_eq_true] at hh
  cases i with
  | zero =>
   simp at h1 h2
   subst h1; subst h2
   have:=hh.1
   rw [show Nat.blt s j=true by rw [Nat.blt_eq]; omega] at this
   simp only [cond_true,Bool.or_eq_true,Bool.and_eq_true] at this
   rcases this with ((h | h) | h) | h
   ·exact .inl h
   ·exact .inr (.inl h)
   ·exact .inr (.inr (.inl ⟨h.1.1.1,h.1.1.2,h.1.2,h.2⟩))
   ·exact .inr (.inr (.inr ⟨h.1.1.1,h.1.1.2,h.1.2,h.2⟩))
  | succ i =>
   have:=indepAtS_spec hh.2 (i:=i) (by simpa using h1) (by simpa using h2) (by omega)
   rw [show s+(i+1)=s+1+i by omega]; exact this
theorem indepFromS_spec {ops:List Oper} {rs:List Rec} {sf:List (Nat × Nat)}:∀{yr:List Rec} {yo:List Oper} {s:Nat},indepFromS ops rs sf s yr yo=true→∀{j:Nat} {y:Rec} {oy:Oper},yr[j]?=some y→yo[j]?=some oy →
  indepAtS ops rs sf (s+j) y oy 0 rs ops=true
 | [],yo,s,_,j,y,oy,h,_=>by simp at h
 | _::_,[],s,_,j,y,oy,_,h=>by simp at h
 | a::yr,b::yo,s,hh,j,y,oy,h1,h2=>by
  simp only [indepFromS,Bool.and_eq_true] at hh
  cases j with
  | zero=>simp at h1 h2; subst h1; subst h2; exact hh.1
  | succ j =>
   have:=indepFromS_spec hh.2 (j:=j) (by simpa using h1) (by simpa using h2)
   rw [show s+(j+1)=s+1+j by omega]; exact this
section
variable {P:Program} {C:Org→Prop} {ops:List Oper} {n:Nat} {g:Org}
theorem any_order (hCg:C g) {F:Fence} (hF:Wide F) {lo:Nat} (hgm:g.m≤lo) {ρ0:Nat→AV} {κ0:Nat→Box} {rs:List Rec} {Q:Exit→Act→World→Prop} (hind:indepB ops rs=true) (hlen:rs.length=ops.length)
  (hall:∀i r o,rs[i]?=some r→ops[i]?=some o→r.rows=ridk (acc ρ0 (fun i=>(rs[i]?.map (·.eff.dst)).getD []) (fun _=>true) i) (acc κ0 (fun i=>(rs[i]?.map (·.eff.box)).getD []) (fun _=>true) i) o∧Snd P C ops n lo o (acc ρ0 (fun i=>(rs[i]?.map (·.eff.dst)).getD []) (fun _=>true) i) (acc κ0 (fun i=>(rs[i]?.map (·.eff.box)).getD []) (fun _=>true) i) r.eff)
  (hQ:∀a w,St g n (acc ρ0 (fun i=>(rs[i]?.map (·.eff.dst)).getD []) (fun _=>true) ops.length) (acc κ0 (fun i=>(rs[i]?.map (·.eff.box)).getD []) (fun _=>true) ops.length) a w→Q .normal a w) :
  ∀(fuel:Nat) (listed:Array Bool) (a:Act) (w:World),listed.size=ops.length→cntf (fun i=>listed.getD i false) ops.length≤fuel →
   (∀i o,ops[i]?=some o→listed.getD i false=true→∀d,d∈deps o→listed.getD d false=true) →
   St g n (acc ρ0 (fun i=>(rs[i]?.map (·.eff.dst)).getD []) (fun i=>listed.getD i false) ops.length) (acc κ0 (fun i=>(rs[i]?.map (·.eff.box)).getD []) (fun i=>listed.getD i false) ops.length) a w →
   wpAnyIn F 0 P .any ops.toArray Q fuel listed a w:=by
 simp only [indepB,Bool.and_eq_true] at hind
 obtain ⟨hedge,hind⟩:=hind
 have hdl:∀(q:Nat) (o:Oper),ops[q]?=some o→∀d,d∈deps o→d<ops.length:=fun q o ho d hd=>by
  have h1:=edges_spec hedge ho d hd
  have h2:=(List.getElem?_eq_some_iff.1 ho).1
  omega
 have done:∀(listed:Array Bool) (a:Act) (w:World),(∀i,i<ops.length→listed.getD i false=true) →
   St g n (acc ρ0 (fun i=>(rs[i]?.map (·.eff.dst)).getD []) (fun i=>listed.getD i false) ops.length) (acc κ0 (fun i=>(rs[i]?.map (·.eff.box)).getD []) (fun i=>listed.getD i false) ops.length) a w→Q .normal a w:=by
  intro listed a w hl hs
  refine hQ a w ?_
  have e1:∀t,acc ρ0 (fun i=>(rs[i]?.map (·.eff.dst)).getD []) (fun i=>listed.getD i false) ops.length t=acc ρ0 (fun i=>(rs[i]?.map (·.eff.dst)).getD []) (fun _=>true) ops.length t :=
   fun t=>acc_low fun i hi he=>by rw [hl i hi] at he; cases he
  have e2:∀t,acc κ0 (fun i=>(rs[i]?.map (·.eff.box)).getD []) (fun i=>listed.getD i false) ops.length t=acc κ0 (fun i=>(rs[i]?.map (·.eff.box)).getD []) (fun _=>true) ops.length t :=
   fun t=>acc_low fun i hi he=>by rw [hl i hi] at he; cases he
  rw [←funext e1,←funext e2]
  exact hs
 have stuck:∀(listed:Array Bool),listed.size=ops.length→Region.ready .any ops.toArray listed=[]→∀i,i<ops.length→listed.getD i false=true:=by
  intro listed hsz hr i
  induction i using Nat.strongRecOn with
  | _ i ih =>
   intro hi
   cases hl:listed.getD i false with
   | true=>rfl
   | false =>
    have ho:ops[i]?=some (ops[i]'hi):=List.getElem?_eq_getElem hi
    have:i∈Region.ready .any ops.toArray listed:=(mem_ready hsz).2 ⟨_,ho,hl,fun d hd=>ih d (by have:=edges_spec hedge ho d hd; omega) (hdl i _ ho d hd)⟩
    rw [hr] at this; cases this
 intro fuel
 induction fuel with
 | zero =>
  intro listed a w hsz hc hdown hs
  have hl:=cntf_zero (E:=fun i=>listed.getD i false) (m:=ops.length) (by omega)
  refine ⟨?_,done listed a w hl hs⟩
  refine List.eq_nil_iff_forall_not_mem.2 fun i hi=>?_
  obtain ⟨o,ho,h1,_⟩:=(mem_ready hsz).1 hi
  have:listed.getD i false=true:=hl i (List.getElem?_eq_some_iff.1 ho).1
  rw [h1] at this; cases this
 | succ fuel ih =>
  intro listed a w hsz hc hdown hs
  refine ⟨fun hr=>done listed a w (stuck listed hsz hr) hs,fun j hj=>?_⟩
  obtain ⟨o,ho,hun,hdep⟩:=(mem_ready hsz).1 hj
  have hjl:j<ops.length:=(List.getElem?_eq_some_iff.1 ho).1
  have hrj:rs[j]?=some (rs[j]'(by omega)):=List.getElem?_eq_getElem (by omega)
  obtain ⟨hrows,hsnd⟩:=hall j _ o hrj ho
  have apart:∀(i:Nat) (x:Rec) (ox:Oper),rs[i]?=some x→ops[i]?=some ox→i ≠ j→(i<j∧listed.getD i false=false ∨ j<i∧listed.getD i false=true)→apartB ops x (rs[j]'(by omega)) o=true∧apartB ops (rs[j]'(by omega)) x ox=true:=by
   intro i x ox hx hox hne hcase
   rcases hcase with ⟨hlt,hli⟩ | ⟨hlt,hli⟩
   ·have h1:=indepFrom_spec hind hrj ho
    rw [Nat.zero_add] at h1
    rcases indepAt_spec h1 hx hox (by omega) with hr | hr
    ·rw [Nat.zero_add] at hr
     have:listed.getD i false=true:=reach_deps (E:=fun i=>listed.getD i false) hdown ho hr hdep (hdl j o ho) hdl
     rw [hli] at this; cases this
    ·exact hr
   ·have h1:=indepFrom_spec hind hx hox
    rw [Nat.zero_add] at h1
    rcases indepAt_spec h1 hrj ho (by omega) with hr | hr
    ·rw [Nat.zero_add] at hr
     have:listed.getD j false=true:=reach_deps (E:=fun i=>listed.getD i false) hdown hox hr (hdown i ox hox hli) (hdl i ox hox) hdl
     rw [hun] at this; cases this
    ·exact ⟨hr.2,hr.1⟩
  have hgetE:∀i,i<ops.length→∃x ox,rs[i]?=some x∧ops[i]?=some ox:=fun i hi=>⟨_,_,List.getElem?_eq_getElem (by omega),List.getElem?_eq_getElem hi⟩
  have slotRead:∀t,(∀(x:Rec) (ox:Oper),apartB ops x (rs[j]'(by omega)) o=true→t ∉ keys x.eff.dst)→acc ρ0 (fun i=>(rs[i]?.map (·.eff.dst)).getD []) (fun i=>listed.getD i false) ops.length t=acc ρ0 (fun i=>(rs[i]?.map (·.eff.dst)).getD []) (fun _=>true) j t:=by
   intro t ht
   refine acc_read (by omega) (fun i hi he=>?_) (fun i hji hi he=>?_)
   ·obtain ⟨x,ox,hx,hox⟩:=hgetE i (by omega)
    simp only [hx,Option.map_some,Option.getD_some]
    exact ht x ox (apart i x ox hx hox (by omega) (.inl ⟨hi,he⟩)).1
   ·rcases Nat.lt_or_eq_of_le hji with hlt | rfl
    ·obtain ⟨x,ox,hx,hox⟩:=hgetE i hi
     simp only [hx,Option.map_some,Option.getD_some]
     exact ht x ox (apart i x ox hx hox (by omega) (.inr ⟨hlt,he⟩)).1
    ·rw [hun] at he; cases he
  have boxRead:∀t,(∀(x:Rec) (ox:Oper),apartB ops x (rs[j]'(by omega)) o=true→t ∉ keys x.eff.box)→acc κ0 (fun i=>(rs[i]?.map (·.eff.box)).getD []) (fun i=>listed.getD i false) ops.length t=acc κ0 (fun i=>(rs[i]?.map (·.eff.box)).getD []) (fun _=>true) j t:=by
   intro t ht
   refine acc_read (by omega) (fun i hi he=>?_) (fun i hji hi he=>?_)
   ·obtain ⟨x,ox,hx,hox⟩:=hgetE i (by omega)
    simp only [hx,Option.map_some,Option.getD_some]
    exact ht x ox (apart i x ox hx hox (by omega) (.inl ⟨hi,he⟩)).1
   ·rcases Nat.lt_or_eq_of_le hji with hlt | rfl
    ·obtain ⟨x,ox,hx,hox⟩:=hgetE i hi
     simp only [hx,Option.map_some,Option.getD_some]
     exact ht x ox (apart i x ox hx hox (by omega) (.inr ⟨hlt,he⟩)).1
    ·rw [hun] at he; cases he
  have apS:∀{x y:Rec} {oy:Oper},apartB ops x y oy=true→disj (keysE x.eff.dst) (oy.looksAt ops.toArray)=true∧disj (keysE x.eff.dst) (keysE y.eff.dst)=true∧disj (keysB x.eff.box) y.rows=true∧disj (keysB x.eff.box) y.eff.reads=true∧disj (keysB x.eff.box) (keysB y.eff.box)=true:=by
   intro x y oy h
   simp only [apartB,Bool.and_eq_true] at h
   exact ⟨h.1.1.1.1,h.1.1.1.2,h.1.1.2,h.1.2,h.2⟩
  have hag:Agr ops o (acc ρ0 (fun i=>(rs[i]?.map (·.eff.dst)).getD []) (fun _=>true) j) (acc ρ0 (fun i=>(rs[i]?.map (·.eff.dst)).getD []) (fun i=>listed.getD i false) ops.length)
    (acc κ0 (fun i=>(rs[i]?.map (·.eff.box)).getD []) (fun _=>true) j) (acc κ0 (fun i=>(rs[i]?.map (·.eff.box)).getD []) (fun i=>listed.getD i false) ops.length) (rs[j]'(by omega)).eff.reads (rs[j]'(by omega)).eff.box:=by
   refine ⟨fun t ht=>slotRead t fun x ox h hm=>?_,fun i hi=>boxRead i fun x ox h hm=>?_,fun i hi=>boxRead i fun x ox h hm=>?_,fun i b hb=>boxRead i fun x ox h hm=>?_⟩
   ·exact disj_spec (apS h).1 t (by rw [keysE_eq]; exact hm) ht
   ·exact disj_spec (apS h).2.2.1 i (by rw [keysB_eq]; exact hm) (by rw [hrows]; exact hi)
   ·exact disj_spec (apS h).2.2.2.1 i (by rw [keysB_eq]; exact hm) hi
   ·exact disj_spec (apS h).2.2.2.2 i (by rw [keysB_eq]; exact hm) (by rw [keysB_eq]; exact List.mem_map.2 ⟨(i,b),hb,rfl⟩)
  have hrun:=hsnd F hF _ _ hag g a w ⟨hgm,hCg⟩ hs
  have hset:(fun i=>(listed.setIfInBounds j true).getD i false)=setE (fun i=>listed.getD i false) j:=by
   funext i
   simp only [setE,Array.getD_eq_getD_getElem?]
   by_cases e:i=j
   ·subst e; simp [hsz,hjl]
   ·rw [if_neg e,Array.getElem?_setIfInBounds_ne (fun h=>e h.symm)]
  have next:∀a' w',St g n (updl (acc ρ0 (fun i=>(rs[i]?.map (·.eff.dst)).getD []) (fun i=>listed.getD i false) ops.length) (rs[j]'(by omega)).eff.dst) (updl (acc κ0 (fun i=>(rs[i]?.map (·.eff.box)).getD []) (fun i=>listed.getD i false) ops.length) (rs[j]'(by omega)).eff.box) a' w' →
    wpAnyIn F 0 P .any ops.toArray Q fuel (listed.setIfInBounds j true) a' w':=by
   intro a' w' hs'
   refine ih _ a' w' (by simp [hsz]) ?_ ?_ ?_
   ·rw [hset]
    have:=cntf_set (E:=fun i=>listed.getD i false) hun hjl
    omega
   ·have hset':∀i,(listed.setIfInBounds j true).getD i false=setE (fun i=>listed.getD i false) j i:=fun i=>congrFun hset i
    intro i o' ho' hi d hd
    rw [hset'] at hi ⊢
    have up:listed.getD d false=true→setE (fun i=>listed.getD i false) j d=true:=fun h=>by
     by_cases e:d=j
     ·subst e; exact setE_same _ _
     ·rw [setE_other _ e]; exact h
    by_cases e:i=j
    ·subst e
     rw [ho] at ho'; injection ho' with ho'; subst ho'
     exact up (hdep d hd)
    ·rw [setE_other _ e] at hi
     exact up (hdown i o' ho' hi d hd)
   ·rw [hset]
    rw [acc_set (f:=ρ0) hun hjl (fun i h1 h2 h3 t ht=>?_),acc_set (f:=κ0) hun hjl (fun i h1 h2 h3 t ht=>?_)]
    ·simpa [hrj] using hs'
    ·obtain ⟨x,ox,hx,hox⟩:=hgetE i h2
     simp only [hrj,hx,Option.map_some,Option.getD_some] at ht ⊢
     have h5:=disj_spec (apS (apart i x ox hx hox (by omega) (.inr ⟨h1,h3⟩)).2).2.2.2.2 t (by rw [keysB_eq]; exact ht)
     rwa [keysB_eq] at h5
    ·obtain ⟨x,ox,hx,hox⟩:=hgetE i h2
     simp only [hrj,hx,Option.map_some,Option.getD_some] at ht ⊢
     have h5:=disj_spec (apS (apart i x ox hx hox (by omega) (.inr ⟨h1,h3⟩)).2).2.1 t (by rw [keysE_eq]; exact ht)
     rwa [keysE_eq] at h5
  unfold wpOpIn
  rw [show ops.toArray[j]?=some o by simpa using ho]
  unfold Runs at hrun
  simp only
  split at hrun
  ·rename_i hw; rw [if_pos hw]; exact wpIn_imp next hrun
  ·rename_i hw; rw [if_neg hw]; exact ⟨fun f _=>hF.fn f,next _ _ hrun⟩
theorem any_orderS (hCg:C g) {F:Fence} (hF:Wide F) {lo:Nat} (hgm:g.m≤lo) {ρ0:Nat→AV} {κ0:Nat→Box} {rs:List Rec} {Q:Exit→Act→World→Prop} {sf:List (Nat × Nat)} {nxm:Nat} (hind:indepS ops rs sf nxm=true) (hlen:rs.length=ops.length)
  (hall:∀i r o,rs[i]?=some r→ops[i]?=some o→r.rows=ridk (acc ρ0 (fun i=>(rs[i]?.map (·.eff.dst)).getD []) (fun _=>true) i) (acc κ0 (fun i=>(rs[i]?.map (·.eff.box)).getD []) (fun _=>true) i) o∧Snd P C ops n lo o (acc ρ0 (fun i=>(rs[i]?.map (·.eff.dst)).getD []) (fun _=>true) i) (acc κ0 (fun i=>(rs[i]?.map (·.eff.box)).getD []) (fun _=>true) i) r.eff)
  (hsoft:∀j x,(j,x)∈sf→∀r o,rs[j]?=some r→ops[j]?=some o→r.rows=ridk (accD ρ0 rs j) (accS κ0 rs ops.length j x) o∧Snd P C ops n lo o (accD ρ0 rs j) (accS κ0 rs ops.length j x) r.eff)
  (hQ:∀a w,St g n (acc ρ0 (fun i=>(rs[i]?.map (·.eff.dst)).getD []) (fun _=>true) ops.length) (acc κ0 (fun i=>(rs[i]?.map (·.eff.box)).getD []) (fun _=>true) ops.length) a w→Q .normal a w) :
  ∀(fuel:Nat) (listed:Array Bool) (a:Act) (w:World),listed.size=ops.length→cntf (fun i=>listed.getD i false) ops.length≤fuel →
   (∀i o,ops[i]?=some o→listed.getD i false=true→∀d,d∈deps o→listed.getD d false=true) →
   St g n (acc ρ0 (fun i=>(rs[i]?.map (·.eff.dst)).getD []) (fun i=>listed.getD i false) ops.length) (acc κ0 (fun i=>(rs[i]?.map (·.eff.box)).getD []) (fun i=>listed.getD i false) ops.length) a w →
   wpAnyIn F 0 P .any ops.toArray Q fuel listed a w:=by
 simp only [indepS,Bool.and_eq_true] at hind
 obtain ⟨⟨⟨hedge,hind⟩,hnd⟩,_⟩:=hind
 have hdl:∀(q:Nat) (o:Oper),ops[q]?=some o→∀d,d∈deps o→d<ops.length:=fun q o ho d hd=>by
  have h1:=edges_spec hedge ho d hd
  have h2:=(List.getElem?_eq_some_iff.1 ho).1
  omega
 have done:∀(listed:Array Bool) (a:Act) (w:World),(∀i,i<ops.length→listed.getD i false=true) →
   St g n (acc ρ0 (fun i=>(rs[i]?.map (·.eff.dst)).getD []) (fun i=>listed.getD i false) ops.length) (acc κ0 (fun i=>(rs[i]?.map (·.eff.box)).getD []) (fun i=>listed.getD i false) ops.length) a w→Q .normal a w:=by
  intro listed a w hl hs
  refine hQ a w ?_
  have e1:∀t,acc ρ0 (fun i=>(rs[i]?.map (·.eff.dst)).getD []) (fun i=>listed.getD i false) ops.length t=acc ρ0 (fun i=>(rs[i]?.map (·.eff.dst)).getD []) (fun _=>true) ops.length t :=
   fun t=>acc_low fun i hi he=>by rw [hl i hi] at he; cases he
  have e2:∀t,acc κ0 (fun i=>(rs[i]?.map (·.eff.box)).getD []) (fun i=>listed.getD i false) ops.length t=acc κ0 (fun i=>(rs[i]?.map (·.eff.box)).getD []) (fun _=>true) ops.length t :=
   fun t=>acc_low fun i hi he=>by rw [hl i hi] at he; cases he
  rw [←funext e1,←funext e2]
  exact hs
 have stuck:∀(listed:Array Bool),listed.size=ops.length→Region.ready .any ops.toArray listed=[]→∀i,i<ops.length→listed.getD i false=true:=by
  intro listed hsz hr i
  induction i using Nat.strongRecOn with
  | _ i ih =>
   intro hi
   cases hl:listed.getD i false with
   | true=>rfl
   | false =>
    have ho:ops[i]?=some (ops[i]'hi):=List.getElem?_eq_getElem hi
    have:i∈Region.ready .any ops.toArray listed:=(mem_ready hsz).2 ⟨_,ho,hl,fun d hd=>ih d (by have:=edges_spec hedge ho d hd; omega) (hdl i _ ho d hd)⟩
    rw [hr] at this; cases this
 intro fuel
 induction fuel with
 | zero =>
  intro listed a w hsz hc hdown hs
  have hl:=cntf_zero (E:=fun i=>listed.getD i false) (m:=ops.length) (by omega)
  refine ⟨?_,done listed a w hl hs⟩
  refine List.eq_nil_iff_forall_not_mem.2 fun i hi=>?_
  obtain ⟨o,ho,h1,_⟩:=(mem_ready hsz).1 hi
  have:listed.getD i false=true:=hl i (List.getElem?_eq_some_iff.1 ho).1
  rw [h1] at this; cases this
 | succ fuel ih =>
  intro listed a w hsz hc hdown hs
  refine ⟨fun hr=>done listed a w (stuck listed hsz hr) hs,fun j hj=>?_⟩
  obtain ⟨o,ho,hun,hdep⟩:=(mem_ready hsz).1 hj
  have hjl:j<ops.length:=(List.getElem?_eq_some_iff.1 ho).1
  have hrj:rs[j]?=some (rs[j]'(by omega)):=List.getElem?_eq_getElem (by omega)
  obtain ⟨hrows,hsnd⟩:=hall j _ o hrj ho
  have apS:∀{x y:Rec} {oy:Oper},apartB ops x y oy=true→disj (keysE x.eff.dst) (oy.looksAt ops.toArray)=true∧disj (keysE x.eff.dst) (keysE y.eff.dst)=true∧disj (keysB x.eff.box) y.rows=true∧disj (keysB x.eff.box) y.eff.reads=true∧disj (keysB x.eff.box) (keysB y.eff.box)=true:=by
   intro x y oy h
   simp only [apartB,Bool.and_eq_true] at h
   exact ⟨h.1.1.1.1,h.1.1.1.2,h.1.1.2,h.1.2,h.2⟩
  have slS:∀{x y:Rec} {oy:Oper},apartB ops x y oy=true→slotB ops x y oy=true:=by
   intro x y oy h
   have:=apS h
   simp only [slotB,Bool.and_eq_true]
   exact ⟨this.1,this.2.1⟩
  have nob:∀{y:Rec},noBox y=true→y.eff.box=[]:=by
   intro y h
   unfold noBox at h
   split at h
   ·assumption
   ·cases h
  have mis:∀(i:Nat) (x:Rec) (ox:Oper),rs[i]?=some x→ops[i]?=some ox→i ≠ j→(i<j∧listed.getD i false=false ∨ j<i∧listed.getD i false=true) →
    slotB ops x (rs[j]'(by omega)) o=true∧disj (keysE (rs[j]'(by omega)).eff.dst) (keysE x.eff.dst)=true∧disj (keysB (rs[j]'(by omega)).eff.box) (keysB x.eff.box)=true∧(apartB ops x (rs[j]'(by omega)) o=true ∨ memP j i sf=true):=by
   intro i x ox hx hox hne hcase
   rcases hcase with ⟨hlt,hli⟩ | ⟨hlt,hli⟩
   ·have h1:=indepFromS_spec hind hrj ho
    rw [Nat.zero_add] at h1
    rcases indepAtS_spec h1 hx hox (by omega) with hr | ⟨h2,h3⟩ | ⟨h2,h3,h4,h5⟩ | ⟨h2,h3,h4,h5⟩
    ·rw [Nat.zero_add] at hr
     have:listed.getD i false=true:=reach_deps (E:=fun i=>listed.getD i false) hdown ho hr hdep (hdl j o ho) hdl
     rw [hli] at this; cases this
    ·exact ⟨slS h2,(apS h3).2.1,(apS h3).2.2.2.2,.inl h2⟩
    ·rw [Nat.zero_add] at h2
     exact ⟨h3,(apS h5).2.1,(apS h5).2.2.2.2,.inr h2⟩
    ·simp only [slotB,Bool.and_eq_true] at h3
     exact ⟨slS h5,h3.2,by rw [nob h4]; exact disj_nil _,.inl h5⟩
   ·have h1:=indepFromS_spec hind hx hox
    rw [Nat.zero_add] at h1
    rcases indepAtS_spec h1 hrj ho (by omega) with hr | ⟨h2,h3⟩ | ⟨h2,h3,h4,h5⟩ | ⟨h2,h3,h4,h5⟩
    ·rw [Nat.zero_add] at hr
     have:listed.getD j false=true:=reach_deps (E:=fun i=>listed.getD i false) hdown hox hr (hdown i ox hox hli) (hdl i ox hox) hdl
     rw [hun] at this; cases this
    ·exact ⟨slS h3,(apS h2).2.1,(apS h2).2.2.2.2,.inl h3⟩
    ·simp only [slotB,Bool.and_eq_true] at h3
     exact ⟨slS h5,h3.2,by rw [nob h4]; exact disj_nil _,.inl h5⟩
    ·rw [Nat.zero_add] at h2
     exact ⟨h3,(apS h5).2.1,(apS h5).2.2.2.2,.inr h2⟩
  have hgetE:∀i,i<ops.length→∃x ox,rs[i]?=some x∧ops[i]?=some ox:=fun i hi=>⟨_,_,List.getElem?_eq_getElem (by omega),List.getElem?_eq_getElem hi⟩
  have slotRead:∀t,(∀(x:Rec),slotB ops x (rs[j]'(by omega)) o=true→t ∉ keys x.eff.dst)→acc ρ0 (fun i=>(rs[i]?.map (·.eff.dst)).getD []) (fun i=>listed.getD i false) ops.length t=acc ρ0 (fun i=>(rs[i]?.map (·.eff.dst)).getD []) (fun _=>true) j t:=by
   intro t ht
   refine acc_read (by omega) (fun i hi he=>?_) (fun i hji hi he=>?_)
   ·obtain ⟨x,ox,hx,hox⟩:=hgetE i (by omega)
    simp only [hx,Option.map_some,Option.getD_some]
    exact ht x (mis i x ox hx hox (by omega) (.inl ⟨hi,he⟩)).1
   ·rcases Nat.lt_or_eq_of_le hji with hlt | rfl
    ·obtain ⟨x,ox,hx,hox⟩:=hgetE i hi
     simp only [hx,Option.map_some,Option.getD_some]
     exact ht x (mis i x ox hx hox (by omega) (.inr ⟨hlt,he⟩)).1
    ·rw [hun] at he; cases he
  have slots:∀t,t∈o.looksAt ops.toArray→acc ρ0 (fun i=>(rs[i]?.map (·.eff.dst)).getD []) (fun i=>listed.getD i false) ops.length t=acc ρ0 (fun i=>(rs[i]?.map (·.eff.dst)).getD []) (fun _=>true) j t:=fun t ht=>slotRead t fun x h hm=>by
   simp only [slotB,Bool.and_eq_true] at h
   exact disj_spec h.1 t (by rw [keysE_eq]; exact hm) ht
  have hrun:Runs P F ops.toArray o a w fun a' w'=>St g n (updl (acc ρ0 (fun i=>(rs[i]?.map (·.eff.dst)).getD []) (fun i=>listed.getD i false) ops.length) (rs[j]'(by omega)).eff.dst) (updl (acc κ0 (fun i=>(rs[i]?.map (·.eff.box)).getD []) (fun i=>listed.getD i false) ops.length) (rs[j]'(by omega)).eff.box) a' w':=by
   by_cases hex:∃q,memP j q sf=true∧q ≠ j∧q<ops.length∧(q<j∧listed.getD q false=false ∨ j<q∧listed.getD q false=true)
   ·-- with a harmless writer out of its place
    obtain ⟨q,hq,hqj,hql,hqc⟩:=hex
    obtain ⟨hrows2,hsnd2⟩:=hsoft j q (memP_mem hq) _ o hrj ho
    have boxRead:∀t,(∀(x:Rec) (ox:Oper),apartB ops x (rs[j]'(by omega)) o=true→t ∉ keys x.eff.box)→acc κ0 (fun i=>(rs[i]?.map (·.eff.box)).getD []) (fun i=>listed.getD i false) ops.length t=accS κ0 rs ops.length j q t:=by
     intro t ht
     refine acc_agree fun i hi hne=>?_
     obtain ⟨x,ox,hx,hox⟩:=hgetE i hi
     simp only [hx,Option.map_some,Option.getD_some]
     by_cases hiq:i=q
     ·exfalso
      subst hiq
      apply hne
      simp only [swE,Nat.beq_refl,cond_true]
      rcases hqc with ⟨h1,h2⟩ | ⟨h1,h2⟩
      ·rw [h2,show Nat.blt i j=true by rw [Nat.blt_eq]; exact h1]; rfl
      ·rw [h2,show Nat.blt i j=false by cases hb:Nat.blt i j with | false=>rfl | true=>rw [Nat.blt_eq] at hb; omega]; rfl
     ·have hb:Nat.beq i q=false:=by cases hb:Nat.beq i q with | false=>rfl | true=>exact absurd (Nat.eq_of_beq_eq_true hb) hiq
      simp only [swE,hb,cond_false] at hne
      by_cases hij:i=j
      ·subst hij
       exfalso
       apply hne
       rw [hun]
       cases hb2:Nat.blt i i with | false=>rfl | true=>rw [Nat.blt_eq] at hb2; omega
      ·have hcase:i<j∧listed.getD i false=false ∨ j<i∧listed.getD i false=true:=by
        rcases Nat.lt_or_gt_of_ne hij with h | h
        ·left
         refine ⟨h,?_⟩
         rw [show Nat.blt i j=true by rw [Nat.blt_eq]; exact h] at hne
         simpa using hne
        ·right
         refine ⟨h,?_⟩
         rw [show Nat.blt i j=false by cases hb:Nat.blt i j with | false=>rfl | true=>rw [Nat.blt_eq] at hb; omega] at hne
         simpa using hne
       rcases (mis i x ox hx hox hij hcase).2.2.2 with h | h
       ·exact ht x ox h
       ·exact absurd (firsts_uniq hnd (memP_mem h) (memP_mem hq)) hiq
    refine hsnd2 F hF _ _ ⟨slots,fun i hi=>boxRead i fun x ox h hm=>?_,fun i hi=>boxRead i fun x ox h hm=>?_,fun i b hb=>boxRead i fun x ox h hm=>?_⟩ g a w ⟨hgm,hCg⟩ hs
    ·exact disj_spec (apS h).2.2.1 i (by rw [keysB_eq]; exact hm) (by rw [hrows2]; exact hi)
    ·exact disj_spec (apS h).2.2.2.1 i (by rw [keysB_eq]; exact hm) hi
    ·exact disj_spec (apS h).2.2.2.2 i (by rw [keysB_eq]; exact hm) (by rw [keysB_eq]; exact List.mem_map.2 ⟨(i,b),hb,rfl⟩)
   ·have full:∀(i:Nat) (x:Rec) (ox:Oper),rs[i]?=some x→ops[i]?=some ox→i ≠ j→(i<j∧listed.getD i false=false ∨ j<i∧listed.getD i false=true)→apartB ops x (rs[j]'(by omega)) o=true:=by
     intro i x ox hx hox hne hcase
     rcases (mis i x ox hx hox hne hcase).2.2.2 with h | h
     ·exact h
     ·exact absurd ⟨i,h,hne,(List.getElem?_eq_some_iff.1 hox).1,hcase⟩ hex
    have boxRead:∀t,(∀(x:Rec) (ox:Oper),apartB ops x (rs[j]'(by omega)) o=true→t ∉ keys x.eff.box)→acc κ0 (fun i=>(rs[i]?.map (·.eff.box)).getD []) (fun i=>listed.getD i false) ops.length t=acc κ0 (fun i=>(rs[i]?.map (·.eff.box)).getD []) (fun _=>true) j t:=by
     intro t ht
     refine acc_read (by omega) (fun i hi he=>?_) (fun i hji hi he=>?_)
     ·obtain ⟨x,ox,hx,hox⟩:=hgetE i (by omega)
      simp only [hx,Option.map_some,Option.getD_some]
      exact ht x ox (full i x ox hx hox (by omega) (.inl ⟨hi,he⟩))
     ·rcases Nat.lt_or_eq_of_le hji with hlt | rfl
      ·obtain ⟨x,ox,hx,hox⟩:=hgetE i hi
       simp only [hx,Option.map_some,Option.getD_some]
       exact ht x ox (full i x ox hx hox (by omega) (.inr ⟨hlt,he⟩))
      ·rw [hun] at he; cases he
    refine hsnd F hF _ _ ⟨slots,fun i hi=>boxRead i fun x ox h hm=>?_,fun i hi=>boxRead i fun x ox h hm=>?_,fun i b hb=>boxRead i fun x ox h hm=>?_⟩ g a w ⟨hgm,hCg⟩ hs
    ·exact disj_spec (apS h).2.2.1 i (by rw [keysB_eq]; exact hm) (by rw [hrows]; exact hi)
    ·exact disj_spec (apS h).2.2.2.1 i (by rw [keysB_eq]; exact hm) hi
    ·exact disj_spec (apS h).2.2.2.2 i (by rw [keysB_eq]; exact hm) (by rw [keysB_eq]; exact List.mem_map.2 ⟨(i,b),hb,rfl⟩)
  have hset:(fun i=>(listed.setIfInBounds j true).getD i false)=setE (fun i=>listed.getD i false) j:=by
   funext i
   simp only [setE,Array.getD_eq_getD_getElem?]
   by_cases e:i=j
   ·subst e; simp [hsz,hjl]
   ·rw [if_neg e,Array.getElem?_setIfInBounds_ne (fun h=>e h.symm)]
  have next:∀a' w',St g n (updl (acc ρ0 (fun i=>(rs[i]?.map (·.eff.dst)).getD []) (fun i=>listed.getD i false) ops.length) (rs[j]'(by omega)).eff.dst) (updl (acc κ0 (fun i=>(rs[i]?.map (·.eff.box)).getD []) (fun i=>listed.getD i false) ops.length) (rs[j]'(by omega)).eff.box) a' w' →
    wpAnyIn F 0 P .any ops.toArray Q fuel (listed.setIfInBounds j true) a' w':=by
   intro a' w' hs'
   refine ih _ a' w' (by simp [hsz]) ?_ ?_ ?_
   ·rw [hset]
    have:=cntf_set (E:=fun i=>listed.getD i false) hun hjl
    omega
   ·have hset':∀i,(listed.setIfInBounds j true).getD i false=setE (fun i=>listed.getD i false) j i:=fun i=>congrFun hset i
    intro i o' ho' hi d hd
    rw [hset'] at hi ⊢
    have up:listed.getD d false=true→setE (fun i=>listed.getD i false) j d=true:=fun h=>by
     by_cases e:d=j
     ·subst e; exact setE_same _ _
     ·rw [setE_other _ e]; exact h
    by_cases e:i=j
    ·subst e
     rw [ho] at ho'; injection ho' with ho'; subst ho'
     exact up (hdep d hd)
    ·rw [setE_other _ e] at hi
     exact up (hdown i o' ho' hi d hd)
   ·rw [hset]
    rw [acc_set (f:=ρ0) hun hjl (fun i h1 h2 h3 t ht=>?_),acc_set (f:=κ0) hun hjl (fun i h1 h2 h3 t ht=>?_)]
    ·simpa [hrj] using hs'
    ·obtain ⟨x,ox,hx,hox⟩:=hgetE i h2
     simp only [hrj,hx,Option.map_some,Option.getD_some] at ht ⊢
     have h5:=disj_spec (mis i x ox hx hox (by omega) (.inr ⟨h1,h3⟩)).2.2.1 t (by rw [keysB_eq]; exact ht)
     rwa [keysB_eq] at h5
    ·obtain ⟨x,ox,hx,hox⟩:=hgetE i h2
     simp only [hrj,hx,Option.map_some,Option.getD_some] at ht ⊢
     have h5:=disj_spec (mis i x ox hx hox (by omega) (.inr ⟨h1,h3⟩)).2.1 t (by rw [keysE_eq]; exact ht)
     rwa [keysE_eq] at h5
  unfold wpOpIn
  rw [show ops.toArray[j]?=some o by simpa using ho]
  unfold Runs at hrun
  simp only
  split at hrun
  ·rename_i hw; rw [if_pos hw]; exact wpIn_imp next hrun
  ·rename_i hw; rw [if_neg hw]; exact ⟨fun f _=>hF.fn f,next _ _ hrun⟩
end
end Go.TM
