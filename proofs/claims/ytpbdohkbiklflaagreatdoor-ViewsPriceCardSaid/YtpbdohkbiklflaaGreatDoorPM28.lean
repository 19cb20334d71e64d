import Derived.Test.YtpbdohkbiklflaaGreatDoorPM20
set_option linter.unusedVariables false
set_option linter.unusedSimpArgs false
set_option linter.unusedSectionVars false
namespace Go.TM
open Go.RowKit
variable [ct]
theorem ur {l:List DV} {j:Nat} {d:DV} (h:l[j]?=some d):(jU l)[j]?=some (.dv d):=by
 induction l generalizing j with
 | nil=>simp at h
 | cons x r ih =>
  cases j with
  | zero=>simp at h; subst h; rfl
  | succ j=>simp only [List.getElem?_cons_succ] at h; exact ih h
theorem oe (l:List DV):(jU l).length=l.length:=by
 induction l with
 | nil=>rfl
 | cons x r ih=>simp [jU,ih]
theorem E7 {P:Program} {f:Nat} {args:List AV} {ds:List DV} (h:bj P f args 0 [] 1 [.ptr 0 0] [(0,.cells (jU ds))]):bj P f args 0 [] 1 [.own 0 0 0 []] [(0,.tree 0 0 (.cT (.agg ds)))]:=by
 refine ⟨h.1,fun w G vs pP cC hr=>?_⟩
 refine Calls.mono (h.2 w G vs pP cC hr) ?_
 rintro e w' ⟨v,r,k,G',rfl,⟨rfl,rfl⟩,hc⟩
 obtain ⟨b,c,t,hb,hw,aT,cW,du⟩:fJ G' w' 0 (.cells (jU ds)):=hc.fit.box 0
 have hv:v=.pointer (some ⟨b,0,none⟩):=by
  have:=hc.res
  simp only [ic] at this
  cases this with
  | ptr _ _ b' h'=>rw [hb] at h'; injection h' with h'; subst h'; rfl
 have dm:∀i,i ≠ 0→aa [(0,ao.tree 0 0 (.cT (.agg ds)))] i=.none∧aa [(0,ao.cells (jU ds))] i=.none:=by
  intro i hi
  have:Nat.beq 0 i=false:=by
   cases hq:Nat.beq 0 i with
   | false=>rfl
   | true=>exact absurd (Nat.eq_of_beq_eq_true hq).symm hi
  simp only [aa,this,cond_false]
  exact ⟨tv,tv⟩
 have P1:∀d,d∈ds→d.af=false:=by
  intro d hd
  obtain ⟨j,hj⟩:=List.getElem?_of_mem hd
  have h1:=ur hj
  have hl:j<c.size:=by rw [aT,oe]; exact (List.getElem?_eq_some_iff.1 hj).1
  have:=du j (.dv d) c[j] h1 (by simp [hl])
  cases this with
  | dv hd=>exact hd.dH
 let H':Nat→Nat→Nat→List PS→Option Value:=fun i ve ep p=>if i=0 then (if ve=0∧ep=0∧p=[] then some v else none) else G'.H i ve ep p
 have EC:H' 0 0 0 []=some v:=rfl
 have qq:aS G'.M w' (az H' 0 0 0) (.cT (.agg ds)):=by
  refine ⟨rfl,fun p n hg hn=>?_⟩
  cases p with
  | nil =>
   simp only [get,Option.some.injEq] at hg
   subst hg
   refine ⟨v,EC,by rw [hv]; rfl,b,c,t,hv,hw,by rw [aT,oe]; rfl,fun j d hd=>?_⟩
   have hd:ds[j]?=some d:=hd
   have h1:=ur hd
   have hl:j<c.size:=by rw [aT,oe]; exact (List.getElem?_eq_some_iff.1 hd).1
   have h2:=cW (.dv d) (List.mem_of_getElem? h1)
   have h3:=du j (.dv d) c[j] h1 (by simp [hl])
   refine ⟨h2,c[j],by simp [hl],.inr ⟨P1 d (List.mem_of_getElem? hd),?_⟩⟩
   cases h3 with
   | dv h3=>exact h3
  | cons s r =>
   exfalso
   simp only [get] at hg
   cases s with
   | key k j=>simp [step] at hg
   | el i j =>
    simp only [step] at hg
    cases hi:Nat.beq i 0 with
    | false=>rw [hi] at hg; simp at hg
    | true =>
     rw [hi] at hg
     simp only [cond_true] at hg
     cases hj:(DV.agg ds).cells[j]? with
     | none=>rw [hj] at hg; simp at hg
     | some y =>
      rw [hj] at hg
      simp only at hg
      have hy:=P1 y (List.mem_of_getElem? (l:=ds) hj)
      cases r with
      | nil=>simp only [get,Option.some.injEq] at hg; subst hg; rw [hy] at hn; cases hn
      | cons s' r' =>
       have:step y s'=none:=by
        cases y <;> first | (cases hy; done) | (cases s' <;> rfl)
       simp only [get,this] at hg
       cases hg
 have gF:∀x,aO (az H' 0 0 0) (.cT (.agg ds)) x→x=b:=by
  rintro x ⟨p,n,u,h1,h2,h3,h4⟩
  cases p with
  | nil =>
   have:some v=some u:=h3
   injection this with this; subst this
   rw [hv] at h4; simp [fm] at h4; exact h4.symm
  | cons s r =>
   have:(none:Option Value)=some u:=h3
   cases this
 have dt:fh (az H' 0 0 0) (.cT (.agg ds)):=by
  intro p q n m u v' x _ _ h3 _ _ _ h7 _
  cases p with
  | nil =>
   cases q with
   | nil=>rfl
   | cons s r=>have:(none:Option Value)=some v':=h7; cases this
  | cons s r=>have:(none:Option Value)=some u:=h3; cases this
 have xD:∀i x,bI { G' with H:=H' } i (aa [(0,ao.tree 0 0 (.cT (.agg ds)))] i) x→i=0∧x=b:=by
  intro i x ho
  by_cases hi:i=0
  ·subst hi; exact ⟨rfl,gF x ho⟩
  ·rw [(dm i hi).1] at ho; cases ho
 have E8:bI G' 0 (aa [(0,ao.cells (jU ds))] 0) b:=hb
 refine ⟨v,_,_,{ G' with H:=H' },rfl,⟨rfl,rfl⟩,{ hc with fit:=⟨hc.fit.sub,fun i=>?_,fun i x ho=>?_,fun i j x o o'=>?_⟩,no:=fun i hi=>?_,res:=?_,rj:=fun i hi=>absurd hi (by omega),nc:=fun i x ho=>?_ }⟩
 ·by_cases hi:i=0
  ·subst hi
   refine ⟨qq,dt,fun ve Bb e p=>?_,fun e he p=>?_⟩
   ·show (if ve=0∧e=0∧p=[] then some v else none)=none
    rw [if_neg (by omega)]
   ·show (if (0:Nat)=0∧e=0∧p=[] then some v else none)=none
    rw [if_neg (by omega)]
  ·rw [(dm i hi).1]
   have:=hc.fit.box i
   rw [(dm i hi).2] at this
   refine ⟨this.1,fun ve e p=>?_⟩
   show (if i=0 then _ else G'.H i ve e p)=none
   rw [if_neg hi]; exact this.2 ve e p
 ·obtain ⟨rfl,rfl⟩:=xD i x ho
  exact hc.fit.own 0 _ E8
 ·rw [(xD i x o).1,(xD j x o').1]
 ·exact (dm i (by omega)).1
 ·exact .own 0 0 0 [] v EC (by rw [hv]; rfl)
 ·obtain ⟨rfl,rfl⟩:=xD i x ho
  exact hc.nc 0 _ E8
end Go.TM
