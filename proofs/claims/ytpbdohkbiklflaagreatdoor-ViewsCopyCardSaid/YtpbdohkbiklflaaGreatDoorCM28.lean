import Derived.Test.YtpbdohkbiklflaaGreatDoorCM20
set_option linter.unusedVariables false
set_option linter.unusedSimpArgs false
set_option linter.unusedSectionVars false
namespace Go.TM
open Go.RowKit
variable [cu]
theorem kz {l:List DV} {j:Nat} {d:DV} (h:l[j]?=some d):(iU l)[j]?=some (.dv d):=by
 induction l generalizing j with
 | nil=>simp at h
 | cons x r ih =>
  cases j with
  | zero=>simp at h; subst h; rfl
  | succ j=>simp only [List.getElem?_cons_succ] at h; exact ih h
theorem ir (l:List DV):(iU l).length=l.length:=by
 induction l with
 | nil=>rfl
 | cons x r ih=>simp [iU,ih]
theorem Gt {P:Program} {f:Nat} {args:List AV} {ds:List DV} (h:aO P f args 0 [] 1 [.ptr 0 0] [(0,.cells (iU ds))]):aO P f args 0 [] 1 [.own 0 0 0 []] [(0,.tree 0 0 (.cB (.agg ds)))]:=by
 refine ⟨h.1,fun w G vs oH ck hr=>?_⟩
 refine Calls.mono (h.2 w G vs oH ck hr) ?_
 rintro e w' ⟨v,r,k,G',rfl,⟨rfl,rfl⟩,hc⟩
 obtain ⟨b,c,t,hb,hw,aU,cE,dg⟩:eY G' w' 0 (.cells (iU ds)):=hc.fit.box 0
 have hv:v=.pointer (some ⟨b,0,none⟩):=by
  have:=hc.res
  simp only [hU] at this
  cases this with
  | ptr _ _ b' h'=>rw [hb] at h'; injection h' with h'; subst h'; rfl
 have dj:∀i,i ≠ 0→aa [(0,ar.tree 0 0 (.cB (.agg ds)))] i=.none∧aa [(0,ar.cells (iU ds))] i=.none:=by
  intro i hi
  have:Nat.beq 0 i=false:=by
   cases hq:Nat.beq 0 i with
   | false=>rfl
   | true=>exact absurd (Nat.eq_of_beq_eq_true hq).symm hi
  simp only [aa,this,cond_false]
  exact ⟨tv,tv⟩
 have NT:∀d,d∈ds→d.ah=false:=by
  intro d hd
  obtain ⟨j,hj⟩:=List.getElem?_of_mem hd
  have h1:=kz hj
  have hl:j<c.size:=by rw [aU,ir]; exact (List.getElem?_eq_some_iff.1 hj).1
  have:=dg j (.dv d) c[j] h1 (by simp [hl])
  cases this with
  | dv hd=>exact hd.dO
 let H':Nat→Nat→Nat→List PS→Option Value:=fun i ve ep p=>if i=0 then (if ve=0∧ep=0∧p=[] then some v else none) else G'.H i ve ep p
 have FU:H' 0 0 0 []=some v:=rfl
 have rb:aX G'.M w' (aB H' 0 0 0) (.cB (.agg ds)):=by
  refine ⟨rfl,fun p n hg hn=>?_⟩
  cases p with
  | nil =>
   simp only [get,Option.some.injEq] at hg
   subst hg
   refine ⟨v,FU,by rw [hv]; rfl,b,c,t,hv,hw,by rw [aU,ir]; rfl,fun j d hd=>?_⟩
   have hd:ds[j]?=some d:=hd
   have h1:=kz hd
   have hl:j<c.size:=by rw [aU,ir]; exact (List.getElem?_eq_some_iff.1 hd).1
   have h2:=cE (.dv d) (List.mem_of_getElem? h1)
   have h3:=dg j (.dv d) c[j] h1 (by simp [hl])
   refine ⟨h2,c[j],by simp [hl],.inr ⟨NT d (List.mem_of_getElem? hd),?_⟩⟩
   cases h3 with
   | dv h3=>exact h3
  | cons s r =>
   exfalso
   simp only [get] at hg
   cases s with
   | key k j=>simp [step] at hg
   | el i j =>
    simp only [step] at hg
    cases hi:Nat.beq i 0 with
    | false=>rw [hi] at hg; simp at hg
    | true =>
     rw [hi] at hg
     simp only [cond_true] at hg
     cases hj:(DV.agg ds).cells[j]? with
     | none=>rw [hj] at hg; simp at hg
     | some y =>
      rw [hj] at hg
      simp only at hg
      have hy:=NT y (List.mem_of_getElem? (l:=ds) hj)
      cases r with
      | nil=>simp only [get,Option.some.injEq] at hg; subst hg; rw [hy] at hn; cases hn
      | cons s' r' =>
       have:step y s'=none:=by
        cases y <;> first | (cases hy; done) | (cases s' <;> rfl)
       simp only [get,this] at hg
       cases hg
 have fo:∀x,aQ (aB H' 0 0 0) (.cB (.agg ds)) x→x=b:=by
  rintro x ⟨p,n,u,h1,h2,h3,h4⟩
  cases p with
  | nil =>
   have:some v=some u:=h3
   injection this with this; subst this
   rw [hv] at h4; simp [fj] at h4; exact h4.symm
  | cons s r =>
   have:(none:Option Value)=some u:=h3
   cases this
 have dB:fk (aB H' 0 0 0) (.cB (.agg ds)):=by
  intro p q n m u v' x _ _ h3 _ _ _ h7 _
  cases p with
  | nil =>
   cases q with
   | nil=>rfl
   | cons s r=>have:(none:Option Value)=some v':=h7; cases this
  | cons s r=>have:(none:Option Value)=some u:=h3; cases this
 have yA:∀i x,bL { G' with H:=H' } i (aa [(0,ar.tree 0 0 (.cB (.agg ds)))] i) x→i=0∧x=b:=by
  intro i x ho
  by_cases hi:i=0
  ·subst hi; exact ⟨rfl,fo x ho⟩
  ·rw [(dj i hi).1] at ho; cases ho
 have Gu:bL G' 0 (aa [(0,ar.cells (iU ds))] 0) b:=hb
 refine ⟨v,_,_,{ G' with H:=H' },rfl,⟨rfl,rfl⟩,{ hc with fit:=⟨hc.fit.sub,fun i=>?_,fun i x ho=>?_,fun i j x o o'=>?_⟩,no:=fun i hi=>?_,res:=?_,pH:=fun i hi=>absurd hi (by omega),mY:=fun i x ho=>?_ }⟩
 ·by_cases hi:i=0
  ·subst hi
   refine ⟨rb,dB,fun ve Ce e p=>?_,fun e he p=>?_⟩
   ·show (if ve=0∧e=0∧p=[] then some v else none)=none
    rw [if_neg (by omega)]
   ·show (if (0:Nat)=0∧e=0∧p=[] then some v else none)=none
    rw [if_neg (by omega)]
  ·rw [(dj i hi).1]
   have:=hc.fit.box i
   rw [(dj i hi).2] at this
   refine ⟨this.1,fun ve e p=>?_⟩
   show (if i=0 then _ else G'.H i ve e p)=none
   rw [if_neg hi]; exact this.2 ve e p
 ·obtain ⟨rfl,rfl⟩:=yA i x ho
  exact hc.fit.own 0 _ Gu
 ·rw [(yA i x o).1,(yA j x o').1]
 ·exact (dj i (by omega)).1
 ·exact .own 0 0 0 [] v FU (by rw [hv]; rfl)
 ·obtain ⟨rfl,rfl⟩:=yA i x ho
  exact hc.mY 0 _ Gu
end Go.TM
