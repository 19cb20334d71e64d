import Derived.Test.YtpbdohkbiklflaaGreatDoorFM23
set_option linter.unusedVariables false
set_option linter.unusedSimpArgs false
set_option linter.unusedSectionVars false
namespace Go.Proofs.YtpbdohkbiklflaaGreatDoor
open Go.TM
variable [de]
set_option maxRecDepth 100000
def jJ (l:List St):DV:=.sl 7 (l.map gL)
theorem QE:(nth tab (nth tab 30).elem).bytes=8:=rfl
theorem Nl:(nth tab (nth tab 70).elem).bytes=72:=rfl
theorem Lb (l:List Int) (n:Int) (hl:l.length≤1000000):ct Tryz.prog 125 [eY l,I n] [B (decide (n∈l))]:=by
 refine bp aG mixed (aq _) (ar _) Tryz.func125 rfl (by kernel_rfl) rfl ?_
 refine ⟨Nat,fun k=>⟨0,[(0,.dv (eY l)),(1,.dv (I n)),(5,.dv (I k))],[]⟩,fun k=>k≤l.length∧n ∉ l.take k,fun k=>l.length - k,0,fun _=>rfl,⟨⟨rf,rf,rf,tv⟩,tv,rfl,rfl⟩,⟨by omega,by simp⟩,?_⟩
 rintro k ⟨HD,Aj⟩
 refine ⟨fun h=>?_,fun h=>?_⟩
 ·have hk:k<l.length:=by simpa using h
  refine ⟨I l[k],fun _=>⟨by omega,by simp⟩,?_⟩
  refine ⟨fun h=>?_,fun h=>?_⟩
  ·have hn:l[k]=n:=by simpa using h
   have hm:n∈l:=by rw [←hn]; exact List.getElem_mem _
   exact ⟨DV.Le.of_eq (congrArg B (decide_eq_true hm).symm),tv⟩
  ·have hn:l[k] ≠ n:=by simpa using h
   refine ⟨fun _=>⟨by omega,by omega⟩,k+1,⟨⟨rf,rf,az (by omega),tv⟩,tv,rfl,rfl⟩,⟨by omega,?_⟩,by show l.length - (k+1)<l.length - k; omega⟩
   intro hm
   rw [List.take_add_one,List.getElem?_eq_getElem hk] at hm
   simp only [Option.toList_some,List.mem_append,List.mem_singleton] at hm
   rcases hm with hm | hm
   ·exact Aj hm
   ·exact hn hm.symm
 ·have hk:k=l.length:=by
   have:¬ k<l.length:=by simpa using h
   omega
  subst hk
  rw [List.take_length] at Aj
  exact ⟨DV.Le.of_eq (congrArg B (decide_eq_false Aj).symm),tv⟩
theorem OS {n:Int}:∀{l:List Int} (k:Nat),k≤l.length→(∀x∈l.take k,x<n)→(∀x,l[k]?=some x→¬ x<n)→l.takeWhile (fun x=>decide (x<n))=l.take k∧l.dropWhile (fun x=>decide (x<n))=l.drop k
 | [],k,h,_,_=>by simp at h; subst h; exact ⟨rfl,rfl⟩
 | y::r,0,_,_,h=>by
  have:=h y rfl
  rw [List.takeWhile_cons_of_neg (by simpa using this),List.dropWhile_cons_of_neg (by simpa using this)]
  exact ⟨rfl,rfl⟩
 | y::r,k+1,h1,h2,h3=>by
  have hy:y<n:=h2 y (by simp)
  obtain ⟨e1,e2⟩:=OS (l:=r) k (by simpa using h1) (fun x hx=>h2 x (by rw [List.take_succ_cons]; exact List.mem_cons_of_mem _ hx)) (fun x hx=>h3 x (by simpa using hx))
  rw [List.takeWhile_cons_of_pos (by simpa using hy),List.dropWhile_cons_of_pos (by simpa using hy),e1,e2]
  exact ⟨rfl,rfl⟩
theorem CE (l:List Int) (n:Int) (hl:l.length≤1000000):ct Tryz.prog 112 [eY l,I n] [eY (kQ l n)]:=by
 refine bp aG mixed (aq _) (ar _) Tryz.func112 rfl (by kernel_rfl) rfl ?_
 repeat first | refine ⟨id,?_⟩ | refine ⟨fun _ h=>cf h,?_⟩ | refine ⟨fun _ h=>ax h,?_⟩ | refine ⟨fun h=>⟨h,fun h2=>aQ h h2⟩,?_⟩ | refine ⟨fun h=>⟨h,fun h2=>aD h h2⟩,?_⟩
 refine .inl ⟨_,fun _=>(Lb l n hl).ok,?_⟩
 repeat first | refine ⟨id,?_⟩ | refine ⟨fun _ h=>cf h,?_⟩ | refine ⟨fun _ h=>ax h,?_⟩ | refine ⟨fun h=>⟨h,fun h2=>aQ h h2⟩,?_⟩ | refine ⟨fun h=>⟨h,fun h2=>aD h h2⟩,?_⟩
 refine ⟨fun h=>?_,fun h=>?_⟩
 ·have h':n≤0 ∨ n∈l:=by
   have h:(bif decide (n≤0) then true else decide (n∈l))=true:=h
   by_cases h1:n≤0
   ·exact .inl h1
   ·right; simpa [h1] using h
  exact ⟨DV.Le.of_eq (by unfold kQ; rw [if_pos h']),tv⟩
 have h':¬ (n≤0 ∨ n∈l):=by
  have h:(bif decide (n≤0) then true else decide (n∈l))=false:=h
  rintro (h1 | h1) <;> simp [h1] at h
 refine ⟨Nat,fun k=>⟨0,[(0,.dv (eY l)),(1,.dv (I n)),(5,.dv (I k))],[]⟩,fun k=>k≤l.length∧∀x∈l.take k,x<n,fun k=>l.length - k,0,fun _=>rfl,⟨⟨rf,rf,rf,tv⟩,tv,rfl,rfl⟩,⟨by omega,by simp⟩,?_⟩
 rintro k ⟨HD,Aj⟩
 have aM:bw (decide ((k:Int)<((l.map I).length:Int))) true=true→k<l.length:=fun hb=>by
  rw [List.length_map] at hb
  by_cases h9:k<l.length
  ·exact h9
  ·rw [decide_eq_false (by omega)] at hb; cases hb
 repeat first | refine ⟨id,?_⟩ | refine ⟨fun _ h=>cf h,?_⟩ | refine ⟨fun _ h=>ax h,?_⟩ | refine ⟨fun h=>⟨h,fun h2=>aQ h h2⟩,?_⟩ | refine ⟨fun h=>⟨h,fun h2=>aD h h2⟩,?_⟩
 refine ⟨I (l.getD k 0),fun hb=>⟨by omega,by rw [Int.toNat_natCast,List.getElem?_map,List.getElem?_eq_getElem (aM hb),List.getD_eq_getElem?_getD,List.getElem?_eq_getElem (aM hb)]; rfl⟩,?_⟩
 repeat first | refine ⟨id,?_⟩ | refine ⟨fun _ h=>cf h,?_⟩ | refine ⟨fun _ h=>ax h,?_⟩ | refine ⟨fun h=>⟨h,fun h2=>aQ h h2⟩,?_⟩ | refine ⟨fun h=>⟨h,fun h2=>aD h h2⟩,?_⟩
 refine ⟨fun h=>?_,fun h=>?_⟩
 ·have h:(bif decide ((k:Int)<((l.map I).length:Int)) then decide (l.getD k 0<n) else false)=true:=h
  obtain ⟨h1,h2⟩:=yG h
  have hk:k<l.length:=by rw [List.length_map] at h1; have:=of_decide_eq_true h1; omega
  have h2:=of_decide_eq_true h2
  refine ⟨fun _=>⟨by omega,by omega⟩,k+1,⟨⟨rf,rf,az (by omega),tv⟩,tv,rfl,rfl⟩,⟨by omega,?_⟩,by show l.length - (k+1)<l.length - k; omega⟩
  intro x hx
  rw [List.take_add_one,List.getElem?_eq_getElem hk] at hx
  rw [List.getD_eq_getElem?_getD,List.getElem?_eq_getElem hk] at h2
  simp only [Option.toList_some,List.mem_append,List.mem_singleton] at hx
  rcases hx with hx | rfl
  ·exact Aj x hx
  ·exact h2
 have h:(bif decide ((k:Int)<((l.map I).length:Int)) then decide (l.getD k 0<n) else false)=false:=h
 have aj:∀x,l[k]?=some x→¬ x<n:=by
  intro x hx h9
  have hk:=(List.getElem?_eq_some_iff.1 hx).1
  refine yH h ⟨decide_eq_true (by rw [List.length_map]; omega),decide_eq_true ?_⟩
  rw [List.getD_eq_getElem?_getD,hx]; exact h9
 obtain ⟨e1,e2⟩:=OS k HD Aj aj
 have Qt:List.drop (Option.getD none (0:Int)).toNat (List.take (Option.getD (some (k:Int)) ((l.map I).length:Int)).toNat (l.map I))=(l.take k).map I:=by
  simp [List.map_take]
 have oQ:∀q:List Int,(q.map I).length=q.length:=fun q=>List.length_map ..
 refine ⟨fun _=>⟨Int.le_refl _,by show (0:Int)≤(k:Int); omega,by show (k:Int)≤((l.map I).length:Int); rw [List.length_map]; omega⟩,.inr ⟨(l.take k).map I,by rw [Qt]; exact dX.refl _,by rw [QE,oQ,List.length_take]; omega,by rw [oQ,List.length_take]; omega,?_⟩⟩
 refine .inl ⟨[I n],rfl,⟨rf,tv⟩,fun y hy=>(by rcases List.mem_singleton.1 hy with rfl; rfl),.inr ⟨[I n],dX.refl _,(by rw [QE,oQ,List.length_take]; simp; omega),(by rw [oQ,List.length_take]; simp; omega),?_⟩⟩
 have OO:List.drop (Option.getD (some (k:Int)) (0:Int)).toNat (List.take (Option.getD none ((l.map I).length:Int)).toNat (l.map I))=(l.drop k).map I:=by
  simp [List.map_drop]
  rw [←List.length_map (f:=I),List.take_length]
 refine ⟨fun _=>⟨by show (0:Int)≤(k:Int); omega,by show (k:Int)≤((l.map I).length:Int); rw [List.length_map]; omega,Int.le_refl _⟩,.inr ⟨(l.drop k).map I,by rw [OO]; exact dX.refl _,by rw [QE,List.length_append,oQ,oQ,List.length_take,List.length_drop]; simp; omega,by rw [List.length_append,oQ,oQ,List.length_take,List.length_drop]; simp; omega,?_⟩⟩
 refine ⟨DV.Le.of_eq ?_,tv⟩
 show DV.sl 1 (EG ((l.take k).map I++[I n]++(l.drop k).map I))=DV.sl 1 ((kQ l n).map I)
 have e:(l.take k).map I++[I n]++(l.drop k).map I=(kQ l n).map I:=by
  unfold kQ; rw [if_neg h',e1,e2]; simp
 rw [e,oc fun _=>rfl]
theorem Lc {l:List Mv} {k:Nat} {m:Mv} (h:l[k]?=some m) (a it n:Int):gH a it n (l.take (k+1))=CC a it (gH a it n (l.take k)) m:=by
 rw [List.take_add_one,h]; exact yO ..
theorem E3 {l:List St} {i:Nat} {s:St} (h:l[i]?=some s) (a it:Int):aL a it (l.take (i+1))=gH a it (aL a it (l.take i)) s.mv:=by
 rw [List.take_add_one,h]; exact pF ..
def SW (l:List St) (a it:Int) (i:Nat):bh:=⟨0,[(0,.dv (jJ l)),(1,.dv (I a)),(2,.dv (I it)),(7,.dv (I (aL a it (l.take i)))),(8,.dv (I i))],[]⟩
def QF (l:List St) (a it:Int) (i:Nat) (s:St) (k:Nat):bh:=⟨0,[(0,.dv (jJ l)),(1,.dv (I a)),(2,.dv (I it)),(7,.dv (I (gH a it (aL a it (l.take i)) (s.mv.take k)))),(8,.dv (I i)),(9,.dv (I k))],[]⟩
set_option maxHeartbeats 4000000 in
theorem eu (l:List St) (a it:Int) (hl:nw l):ct Tryz.prog 47 [jJ l,I a,I it] [I (aL a it l)]:=by
 refine bp aG mixed (aq _) (ar _) Tryz.func47 rfl (by kernel_rfl) rfl ?_
 refine ⟨Nat,SW l a it,fun i=>i≤l.length,fun i=>l.length - i,0,fun _=>rfl,⟨⟨rf,rf,rf,rf,rf,tv⟩,tv,rfl,rfl⟩,by omega,?_⟩
 have SX:=hl.1
 rintro i hi
 refine ⟨fun h=>?_,fun h=>?_⟩
 ·have hk:i<l.length:=by simpa using h
  have hs:=List.getElem?_eq_getElem hk
  have CF:=hl.2 _ (List.mem_of_getElem? hs)
  generalize l[i]=s at hs CF
  have fS:(l.map gL)[((i:Int)).toNat]?=some (gL s):=by rw [Int.toNat_natCast,List.getElem?_map,hs]; rfl
  refine ⟨Nat,QF l a it i s,fun k=>k≤s.mv.length,fun k=>s.mv.length - k,0,fun _=>rfl,⟨⟨rf,rf,rf,rf,rf,rf,tv⟩,tv,rfl,rfl⟩,by omega,?_⟩
  rintro k Aj
  refine ⟨gL s,fun _=>⟨by omega,fS⟩,?_⟩
  refine ⟨fun h=>?_,fun h=>?_⟩
  ·have E4:k<s.mv.length:=by simpa using h
   have hm:=List.getElem?_eq_getElem E4
   have VD:=CF.2 _ (List.mem_of_getElem? hm)
   generalize s.mv[k]=m at hm VD
   have Uh:(s.mv.map cD)[((k:Int)).toNat]?=some (cD m):=by rw [Int.toNat_natCast,List.getElem?_map,hm]; rfl
   refine ⟨gL s,fun _=>⟨by omega,fS⟩,?_⟩
   refine ⟨cD m,fun _=>⟨by omega,Uh⟩,?_⟩
   have b0:=um a it (hl.take i)
   have b1:=E2 a it (s.mv.take k) (aL a it (l.take i)) fun x hx=>CF.2 x (List.mem_of_mem_take hx)
   have b2:=CF.1
   have b3:(s.mv.take k).length≤4:=by rw [List.length_take]; omega
   have cC:=Lc hm a it (aL a it (l.take i))
   unfold CC at cC
   have q1:∀x y:Int,(x == y)=decide (x=y):=fun x y=>rfl
   have aK:s.mv.length - (k+1)<s.mv.length - k:=by omega
   repeat first | refine ⟨id,?_⟩ | refine ⟨fun _ h=>cf h,?_⟩ | refine ⟨fun _ h=>ax h,?_⟩ | refine ⟨fun h=>⟨h,fun h2=>aQ h h2⟩,?_⟩ | refine ⟨fun h=>⟨h,fun h2=>aD h h2⟩,?_⟩
   refine ⟨fun gB=>?_,fun gB=>?_⟩
   ·have c1:m.it=it∧m.t=a:=by obtain ⟨h1,h2⟩:=yG gB; exact ⟨by simpa using h1,by simpa using h2⟩
    rw [if_pos c1] at cC
    refine ⟨fun _=>⟨by omega,by omega⟩,?_⟩
    repeat first | refine ⟨id,?_⟩ | refine ⟨fun _ h=>cf h,?_⟩ | refine ⟨fun _ h=>ax h,?_⟩ | refine ⟨fun h=>⟨h,fun h2=>aQ h h2⟩,?_⟩ | refine ⟨fun h=>⟨h,fun h2=>aD h h2⟩,?_⟩
    refine ⟨fun fW=>?_,fun fW=>?_⟩
    ·have c2:m.it=it∧m.f=a:=by obtain ⟨h1,h2⟩:=yG fW; exact ⟨by simpa using h1,by simpa using h2⟩
     rw [if_pos c2] at cC
     refine ⟨fun _=>⟨by omega,by omega⟩,?_⟩
     exact ⟨fun _=>⟨by omega,by omega⟩,k+1,⟨⟨rf,rf,rf,az cC.symm,rf,az (by omega),tv⟩,tv,rfl,rfl⟩,by omega,aK⟩
    ·have c2:¬ (m.it=it∧m.f=a):=fun h9=>yH fW ⟨by simpa using h9.1,by simpa using h9.2⟩
     rw [if_neg c2] at cC
     exact ⟨fun _=>⟨by omega,by omega⟩,k+1,⟨⟨rf,rf,rf,az cC.symm,rf,az (by omega),tv⟩,tv,rfl,rfl⟩,by omega,aK⟩
   ·have c1:¬ (m.it=it∧m.t=a):=fun h9=>yH gB ⟨by simpa using h9.1,by simpa using h9.2⟩
    rw [if_neg c1] at cC
    repeat first | refine ⟨id,?_⟩ | refine ⟨fun _ h=>cf h,?_⟩ | refine ⟨fun _ h=>ax h,?_⟩ | refine ⟨fun h=>⟨h,fun h2=>aQ h h2⟩,?_⟩ | refine ⟨fun h=>⟨h,fun h2=>aD h h2⟩,?_⟩
    refine ⟨fun fW=>?_,fun fW=>?_⟩
    ·have c2:m.it=it∧m.f=a:=by obtain ⟨h1,h2⟩:=yG fW; exact ⟨by simpa using h1,by simpa using h2⟩
     rw [if_pos c2] at cC
     refine ⟨fun _=>⟨by omega,by omega⟩,?_⟩
     exact ⟨fun _=>⟨by omega,by omega⟩,k+1,⟨⟨rf,rf,rf,az cC.symm,rf,az (by omega),tv⟩,tv,rfl,rfl⟩,by omega,aK⟩
    ·have c2:¬ (m.it=it∧m.f=a):=fun h9=>yH fW ⟨by simpa using h9.1,by simpa using h9.2⟩
     rw [if_neg c2] at cC
     exact ⟨fun _=>⟨by omega,by omega⟩,k+1,⟨⟨rf,rf,rf,az cC.symm,rf,az (by omega),tv⟩,tv,rfl,rfl⟩,by omega,aK⟩
  ·have E4:k=s.mv.length:=by
    have:¬ k<s.mv.length:=by simpa using h
    omega
   have cC:=E3 hs a it
   have he:gH a it (aL a it (l.take i)) (s.mv.take k)=aL a it (l.take (i+1)):=by rw [E4,List.take_length,cC]
   exact ⟨fun _=>⟨by omega,by omega⟩,i+1,⟨⟨rf,rf,rf,az he,az (by omega),tv⟩,tv,rfl,rfl⟩,by omega,by show l.length - (i+1)<l.length - i; omega⟩
 ·have hk:i=l.length:=by
   have:¬ i<l.length:=by simpa using h
   omega
  exact ⟨az (by rw [hk,List.take_length]),tv⟩
theorem Ii {l:List St} {i:Nat} {s:St} (h:l[i]?=some s):bk (l.take (i+1))=s.mv.foldl fm (bk (l.take i)):=by
 rw [List.take_add_one,h]; simp [bk,List.foldl_append]
theorem Ld {l:List Mv} {k:Nat} {m:Mv} (h:l[k]?=some m) (o:List Int):(l.take (k+1)).foldl fm o=kQ (kQ ((l.take k).foldl fm o) m.f) m.t:=by
 rw [List.take_add_one,h,List.foldl_append]; rfl
theorem wA (l:List Int) (n:Int):(kQ l n).length≤l.length+1:=by
 unfold kQ; split
 ·omega
 ·have:=congrArg List.length (List.takeWhile_append_dropWhile (p:=fun x=>decide (x<n)) (l:=l))
  rw [List.length_append] at this
  rw [List.length_append,List.length_cons]; omega
theorem AG:∀(l:List Mv) (o:List Int),(l.foldl fm o).length≤o.length+2 * l.length
 | [],o=>by simp
 | m::r,o=>by
  have h1:=AG r (fm o m)
  have h2:=wA (kQ o m.f) m.t
  have h3:=wA o m.f
  have h4:(fm o m).length=(kQ (kQ o m.f) m.t).length:=rfl
  rw [List.foldl_cons,List.length_cons]
  omega
theorem CG:∀(l:List St) (o:List Int),(∀s∈l,VC s)→(l.foldl (fun o s=>s.mv.foldl fm o) o).length≤o.length+8 * l.length
 | [],o,_=>by simp
 | s::r,o,h=>by
  have h1:=CG r (s.mv.foldl fm o) fun x hx=>h x (List.mem_cons_of_mem _ hx)
  have h2:=AG s.mv o
  have h3:=(h s List.mem_cons_self).1
  rw [List.foldl_cons,List.length_cons]; omega
theorem wB {l:List St} (h:nw l):(bk l).length≤800:=by
 have h1:=CG l [] h.2
 have h2:=h.1
 unfold bk
 simp only [List.length_nil] at h1
 omega
def SY (l:List St) (i:Nat):bh:=⟨0,[(0,.dv (jJ l)),(3,.dv (eY (bk (l.take i)))),(4,.dv (I i))],[]⟩
def QG (l:List St) (i:Nat) (s:St) (k:Nat):bh:=⟨0,[(0,.dv (jJ l)),(3,.dv (eY ((s.mv.take k).foldl fm (bk (l.take i))))),(4,.dv (I i)),(5,.dv (I k))],[]⟩
set_option maxHeartbeats 4000000 in
theorem og (l:List St) (hl:nw l):ct Tryz.prog 46 [jJ l] [eY (bk l)]:=by
 refine bp aG mixed (aq _) (ar _) Tryz.func46 rfl (by kernel_rfl) rfl ?_
 refine ⟨Nat,SY l,fun i=>i≤l.length,fun i=>l.length - i,0,fun _=>rfl,⟨⟨rf,od _,rf,tv⟩,tv,rfl,rfl⟩,by omega,?_⟩
 have SX:=hl.1
 rintro i hi
 refine ⟨fun h=>?_,fun h=>?_⟩
 ·have hk:i<l.length:=by simpa using h
  have hs:=List.getElem?_eq_getElem hk
  have CF:=hl.2 _ (List.mem_of_getElem? hs)
  have Rr:=wB (hl.take i)
  generalize l[i]=s at hs CF
  have fS:(l.map gL)[((i:Int)).toNat]?=some (gL s):=by rw [Int.toNat_natCast,List.getElem?_map,hs]; rfl
  refine ⟨Nat,QG l i s,fun k=>k≤s.mv.length,fun k=>s.mv.length - k,0,fun _=>rfl,⟨⟨rf,rf,rf,rf,tv⟩,tv,rfl,rfl⟩,by omega,?_⟩
  rintro k Aj
  refine ⟨gL s,fun _=>⟨by omega,fS⟩,?_⟩
  refine ⟨fun h=>?_,fun h=>?_⟩
  ·have E4:k<s.mv.length:=by simpa using h
   have hm:=List.getElem?_eq_getElem E4
   generalize s.mv[k]=m at hm
   have Uh:(s.mv.map cD)[((k:Int)).toNat]?=some (cD m):=by rw [Int.toNat_natCast,List.getElem?_map,hm]; rfl
   have EE:=AG (s.mv.take k) (bk (l.take i))
   rw [List.length_take] at EE
   have SA:=wA ((s.mv.take k).foldl fm (bk (l.take i))) m.f
   have T4:=CF.1
   refine ⟨gL s,fun _=>⟨by omega,fS⟩,?_⟩
   refine ⟨cD m,fun _=>⟨by omega,Uh⟩,?_⟩
   refine .inl ⟨_,fun _=>(CE _ m.f (by omega)).ok,?_⟩
   refine ⟨gL s,fun _=>⟨by omega,fS⟩,?_⟩
   refine ⟨cD m,fun _=>⟨by omega,Uh⟩,?_⟩
   refine .inl ⟨_,fun _=>(CE _ m.t (by omega)).ok,?_⟩
   have he:(s.mv.take (k+1)).foldl fm (bk (l.take i))=kQ (kQ ((s.mv.take k).foldl fm (bk (l.take i))) m.f) m.t:=Ld hm _
   exact ⟨by kernel_rfl,fun _=>⟨by omega,by omega⟩,k+1,⟨⟨rf,DV.Le.of_eq (congrArg eY he.symm),rf,az (by omega),tv⟩,tv,rfl,rfl⟩,by omega,by show s.mv.length - (k+1)<s.mv.length - k; omega⟩
  ·have E4:k=s.mv.length:=by
    have:¬ k<s.mv.length:=by simpa using h
    omega
   have he:(s.mv.take k).foldl fm (bk (l.take i))=bk (l.take (i+1)):=by rw [E4,List.take_length,Ii hs]
   exact ⟨fun _=>⟨by omega,by omega⟩,i+1,⟨⟨rf,DV.Le.of_eq (congrArg eY he),az (by omega),tv⟩,tv,rfl,rfl⟩,by omega,by show l.length - (i+1)<l.length - i; omega⟩
 ·have hk:i=l.length:=by
   have:¬ i<l.length:=by simpa using h
   omega
  exact ⟨DV.Le.of_eq (by rw [hk,List.take_length]),tv⟩
end Go.Proofs.YtpbdohkbiklflaaGreatDoor
namespace Go.Proofs.YtpbdohkbiklflaaGreatDoor
open Go.TM
variable [de]
set_option maxRecDepth 100000
def OT (v:RV):DV:=.agg [I 4,I v.coin,I v.ab,I v.aC,jJ v.steps,I v.work]
def GV (v:RV):DV:=.at (OT v) 0
def WZ (v:RV) (d:DV):DV:=.at (.agg [I 4,I v.coin,d,I v.aC,jJ v.steps,I v.work]) 0
theorem CH (b:Bool):ct Tryz.prog 49 [B b] [I (gI b)]:=by
 refine bp aG mixed (aq _) (ar _) Tryz.func49 rfl (by kernel_rfl) rfl ?_
 refine ⟨fun h=>?_,fun h=>?_⟩
 ·have h:b=true:=h
  subst h; exact ⟨rf,tv⟩
 ·have h:b=false:=h
  subst h; exact ⟨rf,tv⟩
theorem E5 (v:RV) (d:DV) (hl:v.steps.length≤1000):ct Tryz.prog 16 [WZ v d] [I (bZ v.steps)]:=by
 refine bp aG mixed (aq _) (ar _) Tryz.func16 rfl (by kernel_rfl) rfl ?_
 refine ⟨fun h=>?_,fun h=>?_⟩
 ·have h0:v.steps=[]:=by
   have h:decide (((v.steps.map gL).length:Int)=0)=true:=h
   rw [List.length_map] at h
   have:=of_decide_eq_true h
   exact List.length_eq_zero_iff.1 (by omega)
  exact ⟨az (by rw [h0]; rfl),tv⟩
 ·have h0:v.steps.length ≠ 0:=by
   have h:decide (((v.steps.map gL).length:Int)=0)=false:=h
   rw [List.length_map] at h
   have:=of_decide_eq_false h
   omega
  have hx:v.steps[v.steps.length - 1]?=some (v.steps.getD (v.steps.length - 1) Rn):=by rw [List.getD_eq_getElem?_getD,List.getElem?_eq_getElem (by omega)]; rfl
  refine ⟨fun _=>⟨by rw [List.length_map]; omega,by rw [List.length_map]; omega⟩,?_⟩
  refine ⟨gL (v.steps.getD (v.steps.length - 1) Rn),fun _=>⟨by rw [List.length_map]; omega,?_⟩,?_⟩
  ·rw [List.length_map,show ((v.steps.length:Int) - 1).toNat=v.steps.length - 1 by omega,List.getElem?_map,hx]; rfl
  exact ⟨by kernel_rfl,rf,tv⟩
theorem jm (v:RV) (hl:v.steps.length≤1000):ct Tryz.prog 16 [GV v] [I (bZ v.steps)]:=E5 v (I v.ab) hl
def iO (coin:Int) (st:St):Int × Int × Int × Bool:=if bC coin st=true then bQ coin st else (0,0,0,false)
theorem GW (coin:Int) (st:St):(iO coin st).2.2.2=bC coin st:=by
 unfold iO
 cases h:bC coin st with
 | true=>rw [if_pos rfl]; exact h
 | false=>rfl
theorem qV (coin:Int) (a b:Mv):(bif bif bif bif bif decide (a.it=coin) then true else !(decide (b.it=coin)) then true else !(decide (a.f=b.t)) then true else !(decide (a.t=b.f)) then true else decide (a.f=0) then true else decide (a.t=0))=!(kN coin a b).2.2.2:=by
 unfold kN
 simp only
 cases decide (a.it=coin) <;> cases decide (b.it=coin) <;> cases decide (a.f=b.t) <;> cases decide (a.t=b.f) <;> cases decide (a.f=0) <;> cases decide (a.t=0) <;> rfl
theorem GX {coin:Int} {st:St} {a b:Mv} (h:bQ coin st=kN coin a b) (hc:(kN coin a b).2.2.2=true):iO coin st=(a.it,a.n,b.n,true):=by
 have h1:bC coin st=true:=by unfold bC; rw [h]; exact hc
 unfold iO
 rw [if_pos h1,h]
 have:kN coin a b=(a.it,a.n,b.n,(kN coin a b).2.2.2):=rfl
 rw [this,hc]
theorem AH {coin:Int} {st:St} (hc:(bQ coin st).2.2.2=false):iO coin st=(0,0,0,false):=by
 unfold iO; rw [if_neg]; unfold bC; rw [hc]; simp
set_option maxHeartbeats 4000000 in
theorem E6 (v:RV) (d:DV) (st:St):ct Tryz.prog 22 [WZ v d,gL st] [I (iO v.coin st).1,I (iO v.coin st).2.1,I (iO v.coin st).2.2.1,B (iO v.coin st).2.2.2]:=by
 refine bp aG mixed (aq _) (ar _) Tryz.func22 rfl (by kernel_rfl) rfl ?_
 repeat first | refine ⟨id,?_⟩ | refine ⟨fun _ h=>cf h,?_⟩ | refine ⟨fun _ h=>ax h,?_⟩ | refine ⟨fun h=>⟨h,fun h2=>aQ h h2⟩,?_⟩ | refine ⟨fun h=>⟨h,fun h2=>aD h h2⟩,?_⟩
 refine ⟨fun hc=>?_,fun hc=>?_⟩
 ·have xl:bQ v.coin st=(0,0,0,false):=by
   unfold bQ
   by_cases hk:st.kind=2
   ·rw [if_neg (by simpa using hk)]
    have h2:¬ st.mv.length=2:=by
     intro h2; rw [List.length_map,h2,hk] at hc; simp at hc
    match hm:st.mv with
    | []=>rfl
    | [_]=>rfl
    | [_,_]=>rw [hm] at h2; exact absurd rfl h2
    | _::_::_::_=>rfl
   ·rw [if_pos hk]
  rw [AH (by rw [xl])]
  exact ⟨rf,rf,rf,rf,tv⟩
 have hk:st.kind=2:=by
  by_cases hk:st.kind=2
  ·exact hk
  ·exfalso; have:(st.kind != 2)=true:=by simpa using hk
   rw [this] at hc; cases hc
 have hl:st.mv.length=2:=by
  rw [hk,List.length_map] at hc
  have:((st.mv.length:Int) != 2)=false:=hc
  simp at this; omega
 obtain ⟨a,b,hm⟩:∃a b,st.mv=[a,b]:=by
  match hm:st.mv with
  | [a,b]=>exact ⟨a,b,rfl⟩
  | []=>rw [hm] at hl; cases hl
  | [_]=>rw [hm] at hl; cases hl
  | _::_::_::_=>rw [hm] at hl; simp at hl
 have e0:(st.mv.map cD)[0]?=some (cD a):=by rw [hm]; rfl
 have e1:(st.mv.map cD)[1]?=some (cD b):=by rw [hm]; rfl
 refine ⟨cD a,fun _=>⟨by omega,e0⟩,?_⟩
 refine ⟨cD b,fun _=>⟨by omega,e1⟩,?_⟩
 have xl:bQ v.coin st=if a.it=v.coin then kN v.coin b a else kN v.coin a b:=by
  unfold bQ; rw [if_neg (by simpa using hk),hm]
 refine ⟨by kernel_rfl,fun hq=>?_,fun hq=>?_⟩
 ·have hq:a.it=v.coin:=of_decide_eq_true hq
  rw [if_pos hq] at xl
  refine ⟨cD b,fun _=>⟨by omega,e1⟩,?_⟩
  refine ⟨cD a,fun _=>⟨by omega,e0⟩,?_⟩
  repeat first | refine ⟨id,?_⟩ | refine ⟨fun _ h=>cf h,?_⟩ | refine ⟨fun _ h=>ax h,?_⟩ | refine ⟨fun h=>⟨h,fun h2=>aQ h h2⟩,?_⟩ | refine ⟨fun h=>⟨h,fun h2=>aD h h2⟩,?_⟩
  refine ⟨by kernel_rfl,fun fW=>?_,fun fW=>?_⟩
  ·have QH:=(qV v.coin b a).symm.trans fW
   rw [AH (by rw [xl]; simpa using QH)]
   exact ⟨rf,rf,rf,rf,tv⟩
  ·have QH:=(qV v.coin b a).symm.trans fW
   rw [GX xl (by simpa using QH)]
   exact ⟨by kernel_rfl,rf,rf,rf,rf,tv⟩
 ·have hq:a.it ≠ v.coin:=of_decide_eq_false hq
  rw [if_neg hq] at xl
  repeat first | refine ⟨id,?_⟩ | refine ⟨fun _ h=>cf h,?_⟩ | refine ⟨fun _ h=>ax h,?_⟩ | refine ⟨fun h=>⟨h,fun h2=>aQ h h2⟩,?_⟩ | refine ⟨fun h=>⟨h,fun h2=>aD h h2⟩,?_⟩
  refine ⟨by kernel_rfl,fun fW=>?_,fun fW=>?_⟩
  ·have QH:=(qV v.coin a b).symm.trans fW
   rw [AH (by rw [xl]; simpa using QH)]
   exact ⟨rf,rf,rf,rf,tv⟩
  ·have QH:=(qV v.coin a b).symm.trans fW
   rw [GX xl (by simpa using QH)]
   exact ⟨by kernel_rfl,rf,rf,rf,rf,tv⟩
theorem yP (v:RV) (st:St):ct Tryz.prog 22 [GV v,gL st] [I (iO v.coin st).1,I (iO v.coin st).2.1,I (iO v.coin st).2.2.1,B (iO v.coin st).2.2.2]:=E6 v (I v.ab) st
end Go.Proofs.YtpbdohkbiklflaaGreatDoor
namespace Go.Proofs.YtpbdohkbiklflaaGreatDoor
open Go.TM
variable [de]
set_option maxRecDepth 100000
theorem Lf {l:List St} {i:Nat} {s:St} (h:l[i]?=some s) (coin ab tick:Int):bq coin ab (l.take (i+1)) tick=bq coin ab (l.take i) tick+(if SU coin ab tick s=true then 1 else 0):=by
 rw [List.take_add_one,h]; unfold bq; rw [List.countP_append]; simp [List.countP_cons]
theorem AI (coin ab:Int) (l:List St) (tick:Int):bq coin ab l tick≤l.length:=List.countP_le_length
def SZ (v:RV) (l:List St) (tick:Int) (i:Nat):bh:=⟨0,[(0,.dv (GV v)),(1,.dv (jJ l)),(2,.dv (I tick)),(7,.dv (I (bq v.coin v.ab (l.take i) tick))),(8,.dv (I i))],[]⟩
set_option maxHeartbeats 4000000 in
theorem jK (v:RV) (l:List St) (hl:l.length≤100) (tick:Int) (hb:-9223372036854775808≤tick - v.ab∧tick - v.ab≤9223372036854775807):ct Tryz.prog 48 [GV v,jJ l,I tick] [I (bq v.coin v.ab l tick)]:=by
 refine bp aG mixed (aq _) (ar _) Tryz.func48 rfl (by kernel_rfl) rfl ?_
 refine ⟨Nat,SZ v l tick,fun i=>i≤l.length,fun i=>l.length - i,0,fun _=>rfl,⟨⟨rf,rf,rf,rf,rf,tv⟩,tv,rfl,rfl⟩,by omega,?_⟩
 rintro i hi
 refine ⟨fun h=>?_,fun h=>?_⟩
 ·have hk:i<l.length:=by simpa using h
  have hs:=List.getElem?_eq_getElem hk
  generalize l[i]=s at hs
  have fS:(l.map gL)[((i:Int)).toNat]?=some (gL s):=by rw [Int.toNat_natCast,List.getElem?_map,hs]; rfl
  have xd:=yP v s
  rw [GW] at xd
  generalize iO v.coin s=q at xd
  refine ⟨gL s,fun _=>⟨by omega,fS⟩,?_⟩
  refine .inl ⟨_,fun _=>(xd).ok,?_⟩
  repeat first | refine ⟨id,?_⟩ | refine ⟨fun _ h=>cf h,?_⟩ | refine ⟨fun _ h=>ax h,?_⟩ | refine ⟨fun h=>⟨h,fun h2=>aQ h h2⟩,?_⟩ | refine ⟨fun h=>⟨h,fun h2=>aD h h2⟩,?_⟩
  refine ⟨gL s,fun _=>⟨by omega,fS⟩,?_⟩
  repeat first | refine ⟨id,?_⟩ | refine ⟨fun _ h=>cf h,?_⟩ | refine ⟨fun _ h=>ax h,?_⟩ | refine ⟨fun h=>⟨h,fun h2=>aQ h h2⟩,?_⟩ | refine ⟨fun h=>⟨h,fun h2=>aD h h2⟩,?_⟩
  refine ⟨fun _=>hb,?_⟩
  repeat first | refine ⟨id,?_⟩ | refine ⟨fun _ h=>cf h,?_⟩ | refine ⟨fun _ h=>ax h,?_⟩ | refine ⟨fun h=>⟨h,fun h2=>aQ h h2⟩,?_⟩ | refine ⟨fun h=>⟨h,fun h2=>aD h h2⟩,?_⟩
  refine ⟨gL s,fun _=>⟨by omega,fS⟩,?_⟩
  repeat first | refine ⟨id,?_⟩ | refine ⟨fun _ h=>cf h,?_⟩ | refine ⟨fun _ h=>ax h,?_⟩ | refine ⟨fun h=>⟨h,fun h2=>aQ h h2⟩,?_⟩ | refine ⟨fun h=>⟨h,fun h2=>aD h h2⟩,?_⟩
  have cC:=Lf hs v.coin v.ab tick
  have hle:=AI v.coin v.ab (l.take i) tick
  rw [List.length_take] at hle
  have aK:l.length - (i+1)<l.length - i:=by omega
  refine ⟨by kernel_rfl,fun hc=>?_,fun hc=>?_⟩
  ·have hc:SU v.coin v.ab tick s=true:=hc
   rw [if_pos hc] at cC
   refine ⟨fun _=>⟨by omega,by omega⟩,?_⟩
   exact ⟨fun _=>⟨by omega,by omega⟩,i+1,⟨⟨rf,rf,rf,az (by omega),az (by omega),tv⟩,tv,rfl,rfl⟩,by omega,aK⟩
  ·have hc:SU v.coin v.ab tick s=false:=hc
   rw [if_neg (by rw [hc]; simp)] at cC
   exact ⟨fun _=>⟨by omega,by omega⟩,i+1,⟨⟨rf,rf,rf,az (by omega),az (by omega),tv⟩,tv,rfl,rfl⟩,by omega,aK⟩
 ·have hk:i=l.length:=by
   have:¬ i<l.length:=by simpa using h
   omega
  exact ⟨az (by rw [hk,List.take_length]),tv⟩
theorem CI (q:Nat→Bool) (k:Nat):(List.range (k+1)).countP q=(List.range k).countP q+(if q k=true then 1 else 0):=by
 rw [List.range_succ,List.countP_append]; simp [List.countP_cons]
theorem CJ {f:Int→Nat} {l:List Int} {i:Nat} {a:Int} (h:l[i]?=some a):((l.take (i+1)).map f).sum=((l.take i).map f).sum+f a:=by
 rw [List.take_add_one,h]; simp [List.sum_append]
theorem uo (q:Nat→Bool) (k:Nat):(List.range k).countP q≤k:=by
 have:=List.countP_le_length (p:=q) (l:=List.range k); rw [List.length_range] at this; exact this
theorem CK (l:List St):∀xs:List Int,nv l xs≤4 * xs.length
 | []=>Nat.le_refl _
 | a::r=>by
  have h1:=CK l r
  have h2:=uo (fun k=>!decide (aL a (k:Nat) l=0)) 4
  unfold nv at h1 ⊢
  rw [List.map_cons,List.sum_cons,List.length_cons]
  have h3:Ni a l=(List.range 4).countP fun k=>!decide (aL a (k:Nat) l=0):=rfl
  omega
def S0 (v:RV) (l:List St) (tick:Int) (n0:Nat) (i:Nat):bh:=⟨0,[(0,.dv (GV v)),(1,.dv (jJ l)),(7,.dv (I ((n0+nv l ((bk l).take i):Nat):Int))),(8,.dv (eY (bk l))),(9,.dv (I i))],[]⟩
def QI (v:RV) (l:List St) (tick:Int) (n0:Nat) (i:Nat) (a:Int) (k:Nat):bh:=⟨0,[(0,.dv (GV v)),(1,.dv (jJ l)),(7,.dv (I ((n0+nv l ((bk l).take i)+(List.range k).countP fun k=>!decide (aL a (k:Nat) l=0):Nat):Int))),(8,.dv (eY (bk l))),(9,.dv (I i)),(10,.dv (I k))],[]⟩
set_option maxHeartbeats 4000000 in
theorem wC (v:RV) (l:List St) (hl:nw l) (tick:Int) (hb:-9223372036854775808≤tick - v.ab∧tick - v.ab≤9223372036854775807):ct Tryz.prog 45 [GV v,jJ l,I tick] [I (qT v.coin v.ab l tick)]:=by
 refine bp aG mixed (aq _) (ar _) Tryz.func45 rfl (by kernel_rfl) rfl ?_
 refine .inl ⟨_,fun _=>(jK v l hl.1 tick hb).ok,?_⟩
 refine .inl ⟨_,fun _=>(og l hl).ok,?_⟩
 have Md:=AI v.coin v.ab l tick
 have EE:=hl.1
 have OU:=wB hl
 generalize hn:bq v.coin v.ab l tick=n0 at *
 refine ⟨Nat,S0 v l tick n0,fun i=>i≤(bk l).length,fun i=>(bk l).length - i,0,fun _=>rfl,⟨⟨rf,rf,az (by simp [nv]),rf,rf,tv⟩,tv,rfl,rfl⟩,by omega,?_⟩
 rintro i hi
 refine ⟨fun h=>?_,fun h=>?_⟩
 ·have hk:i<(bk l).length:=by simpa using h
  have hs:=List.getElem?_eq_getElem hk
  generalize (bk l)[i]=a at hs
  have fS:((bk l).map I)[((i:Int)).toNat]?=some (I a):=by rw [Int.toNat_natCast,List.getElem?_map,hs]; rfl
  have QJ:=CK l ((bk l).take i)
  rw [List.length_take] at QJ
  refine ⟨Nat,QI v l tick n0 i a,fun k=>k≤4,fun k=>4 - k,0,fun _=>rfl,⟨⟨rf,rf,az (by simp),rf,rf,rf,tv⟩,tv,rfl,rfl⟩,by omega,?_⟩
  rintro k Aj
  refine ⟨fun h=>?_,fun h=>?_⟩
  ·have E4:k<4:=by have:=of_decide_eq_true h; omega
   have cC:=CI (fun k=>!decide (aL a (k:Nat) l=0)) k
   have Nm:=uo (fun k=>!decide (aL a (k:Nat) l=0)) k
   refine ⟨I a,fun _=>⟨by omega,fS⟩,?_⟩
   refine .inl ⟨_,fun _=>(eu l a k hl).ok,?_⟩
   have aK:4 - (k+1)<4 - k:=by omega
   refine ⟨fun hc=>?_,fun hc=>?_⟩
   ·have hc:(!decide (aL a (k:Nat) l=0))=true:=hc
    rw [if_pos hc] at cC
    refine ⟨fun _=>⟨by omega,by omega⟩,?_⟩
    exact ⟨fun _=>⟨by omega,by omega⟩,k+1,⟨⟨rf,rf,az (by omega),rf,rf,az (by omega),tv⟩,tv,rfl,rfl⟩,by omega,aK⟩
   ·have hc:(!decide (aL a (k:Nat) l=0))=false:=hc
    rw [if_neg (by rw [hc]; simp)] at cC
    exact ⟨fun _=>⟨by omega,by omega⟩,k+1,⟨⟨rf,rf,az (by omega),rf,rf,az (by omega),tv⟩,tv,rfl,rfl⟩,by omega,aK⟩
  ·have E4:k=4:=by have:=of_decide_eq_false h; omega
   have cC:=CJ (f:=fun a=>Ni a l) hs
   have he:nv l ((bk l).take (i+1))=nv l ((bk l).take i)+(List.range k).countP fun k=>!decide (aL a (k:Nat) l=0):=by rw [E4]; exact cC
   exact ⟨fun _=>⟨by omega,by omega⟩,i+1,⟨⟨rf,rf,az (by omega),rf,az (by omega),tv⟩,tv,rfl,rfl⟩,by omega,by show (bk l).length - (i+1)<(bk l).length - i; omega⟩
 ·have hk:i=(bk l).length:=by
   have:¬ i<(bk l).length:=by simpa using h
   omega
  have he:qT v.coin v.ab l tick=n0+nv l ((bk l).take i):=by rw [hk,List.take_length,←hn]; rfl
  exact ⟨az (by rw [he]),tv⟩
end Go.Proofs.YtpbdohkbiklflaaGreatDoor
namespace Go.Proofs.YtpbdohkbiklflaaGreatDoor
open Go.TM
variable [de]
set_option maxRecDepth 100000
theorem E7 (v:RV) (hl:nw v.steps) (hb:-9223372036854775808≤bZ v.steps - v.ab∧bZ v.steps - v.ab≤9223372036854775807):ct Tryz.prog 56 [GV v] [I (qT v.coin v.ab v.steps (bZ v.steps))]:=by
 refine bp aG mixed (aq _) (ar _) Tryz.func56 rfl (by kernel_rfl) rfl ?_
 refine .inl ⟨_,fun _=>(jm v (by have:=hl.1; omega)).ok,?_⟩
 refine .inl ⟨_,fun _=>(wC v v.steps hl _ hb).ok,?_⟩
 exact ⟨by kernel_rfl,rf,tv⟩
def GY (v:RV):ah:=[(0,.tree 0 0 (.cN (OT v)))]
theorem Lg (v:RV) (hl:nw v.steps) (a it:Int):ct Tryz.prog 59 [GV v,I a,I it] [I (if a<1 then 0 else aL a it v.steps)]:=by
 refine bp aG mixed (aq _) (ar _) Tryz.func59 rfl (by kernel_rfl) rfl ?_
 refine ⟨fun h=>?_,fun h=>?_⟩
 ·have h:=of_decide_eq_true h
  rw [if_pos h]
  exact ⟨rf,tv⟩
 ·have h:=of_decide_eq_false h
  rw [if_neg h]
  refine .inl ⟨_,fun _=>(eu v.steps a it hl).ok,?_⟩
  exact ⟨rf,tv⟩
theorem Lh {f:Int→Int} (h:∀a,-879609302220800≤f a∧f a≤879609302220800):∀l:List Int,-879609302220800 * (l.length:Int)≤(l.map f).sum∧(l.map f).sum≤879609302220800 * (l.length:Int)
 | []=>by simp
 | a::r=>by
  have h1:=Lh h r
  have h2:=h a
  rw [List.map_cons,List.sum_cons,List.length_cons]
  omega
theorem Ij {f:Int→Int} {l:List Int} {i:Nat} {a:Int} (h:l[i]?=some a):((l.take (i+1)).map f).sum=((l.take i).map f).sum+f a:=by
 rw [List.take_add_one,h]; simp [List.sum_append]
def toInv (v:RV) (it:Int) (i:Nat):bh:=⟨0,[(0,.dv (GV v)),(1,.dv (I it)),(5,.dv (eY (bk v.steps))),(6,.dv (I (((bk v.steps).take i).map fun a=>aL a it v.steps).sum)),(7,.dv (I i))],[]⟩
set_option maxHeartbeats 4000000 in
theorem Ik (v:RV) (hl:nw v.steps) (it:Int):ct Tryz.prog 57 [GV v,I it] [I (E1 v.steps it)]:=by
 refine bp aG mixed (aq _) (ar _) Tryz.func57 rfl (by kernel_rfl) rfl ?_
 refine .inl ⟨_,fun _=>(og v.steps hl).ok,?_⟩
 have OU:=wB hl
 refine ⟨Nat,toInv v it,fun i=>i≤(bk v.steps).length,fun i=>(bk v.steps).length - i,0,fun _=>rfl,⟨⟨rf,rf,rf,rf,rf,tv⟩,tv,rfl,rfl⟩,by omega,?_⟩
 rintro i hi
 refine ⟨fun h=>?_,fun h=>?_⟩
 ·have hk:i<(bk v.steps).length:=by simpa using h
  have hs:=List.getElem?_eq_getElem hk
  generalize (bk v.steps)[i]=a at hs
  have fS:((bk v.steps).map I)[((i:Int)).toNat]?=some (I a):=by rw [Int.toNat_natCast,List.getElem?_map,hs]; rfl
  have jV:=Lh (fun a=>um a it hl) ((bk v.steps).take i)
  have cw:=um a it hl
  have cC:=Ij (f:=fun a=>aL a it v.steps) hs
  rw [List.length_take] at jV
  refine ⟨I a,fun _=>⟨by omega,fS⟩,?_⟩
  refine .inl ⟨_,fun _=>(eu v.steps a it hl).ok,?_⟩
  refine ⟨fun _=>⟨by omega,by omega⟩,?_⟩
  exact ⟨by kernel_rfl,fun _=>⟨by omega,by omega⟩,i+1,⟨⟨rf,rf,rf,az cC.symm,az (by omega),tv⟩,tv,rfl,rfl⟩,by omega,by show (bk v.steps).length - (i+1)<(bk v.steps).length - i; omega⟩
 ·have hk:i=(bk v.steps).length:=by
   have:¬ i<(bk v.steps).length:=by simpa using h
   omega
  exact ⟨az (by rw [hk,List.take_length]; rfl),tv⟩
theorem E8 (o:List Rk) (x:Rk):(jI o x).length=o.length+1:=by
 have:=congrArg List.length (List.take_append_drop (il o x.2 o.length) o)
 rw [List.length_append] at this
 unfold jI
 rw [List.length_append,List.length_cons]; omega
theorem Li (l:List St) (it:Int) (o:List Rk) (a:Int):(kR l it o a).length≤o.length+1:=by
 unfold kR; split
 ·omega
 ·rw [E8]; omega
theorem CL (l:List St) (it:Int):∀(xs:List Int) (o:List Rk),(xs.foldl (kR l it) o).length≤o.length+xs.length
 | [],o=>by simp
 | a::r,o=>by
  have h1:=CL l it r (kR l it o a)
  have h2:=Li l it o a
  rw [List.foldl_cons,List.length_cons]; omega
theorem Il {l:List St} {it:Int} {xs:List Int} {i:Nat} {a:Int} (h:xs[i]?=some a):(xs.take (i+1)).foldl (kR l it) []=kR l it ((xs.take i).foldl (kR l it) []) a:=by
 rw [List.take_add_one,h,List.foldl_append]; rfl
theorem Nn:(nth tab (nth tab 63).elem).bytes=16:=rfl
theorem AJ (L:List DV) (n:Int):0≤(if 0<(if (L.length:Int)<n then (L.length:Int) else n) then (if (L.length:Int)<n then (L.length:Int) else n) else 0)∧(if 0<(if (L.length:Int)<n then (L.length:Int) else n) then (if (L.length:Int)<n then (L.length:Int) else n) else 0)≤(L.length:Int) ∧
  List.drop 0 (L.take (if 0<(if (L.length:Int)<n then (L.length:Int) else n) then (if (L.length:Int)<n then (L.length:Int) else n) else 0).toNat)=L.take n.toNat:=by
 by_cases h1:(L.length:Int)<n
 ·rw [if_pos h1]
  by_cases h2:0<(L.length:Int)
  ·rw [if_pos h2]
   refine ⟨by omega,by omega,?_⟩
   rw [List.drop_zero,Int.toNat_natCast,List.take_length,List.take_of_length_le (by omega)]
  ·rw [if_neg h2]
   have:L=[]:=List.length_eq_zero_iff.1 (by omega)
   subst this
   exact ⟨by omega,by simp,by simp⟩
 ·rw [if_neg h1]
  by_cases h2:0<n
  ·rw [if_pos h2]
   exact ⟨by omega,by omega,by rw [List.drop_zero]⟩
  ·rw [if_neg h2]
   exact ⟨by omega,by omega,by rw [show n.toNat=0 by omega]; rfl⟩
end Go.Proofs.YtpbdohkbiklflaaGreatDoor
namespace Go.Proofs.YtpbdohkbiklflaaGreatDoor
open Go.TM
variable [de]
set_option maxRecDepth 100000
def S3 (v:RV) (it n:Int) (i:Nat):bh:=⟨1,[(0,.own 0 0 0 []),(1,.dv (I it)),(2,.dv (I n)),(7,.dv (eY (bk v.steps))),(8,.dv (.sl 2 ((((bk v.steps).take i).foldl (kR v.steps it) []).map eR))),(9,.dv (I i))],GY v⟩
def QK (v:RV) (it n:Int) (i:Nat) (a:Int) (o:List Rk) (k:Nat):bh:=⟨2,[(0,.own 0 0 0 []),(1,.dv (I it)),(2,.dv (I n)),(7,.dv (eY (bk v.steps))),(8,.dv (.sl 2 (o.map eR))),(9,.dv (I i)),(10,.ptr 1 0),(11,.dv (I k))],GY v++[(1,.cells [.dv (I a),.dv (I (aL a it v.steps))])]⟩
set_option maxHeartbeats 4000000 in
theorem wD (v:RV) (hl:nw v.steps) (it n:Int) (hn:n≤9223372036854775807):bn Tryz.prog 60 [.own 0 0 0 [],.dv (I it),.dv (I n)] 1 (GY v) 0 [.dv (.sl 2 ((Nj v.steps it n).map eR))] (GY v):=by
 refine bl aG mixed (aq _) (ar _) Tryz.func60 rfl rfl (by kernel_rfl) ?_
 refine .inl ⟨_,fun _=>(og v.steps hl).ok,?_⟩
 have OU:=wB hl
 refine ⟨Nat,S3 v it n,fun i=>i≤(bk v.steps).length,fun i=>(bk v.steps).length - i,0,fun _=>rfl,⟨⟨rfl,rf,rf,rf,od _,rf,tv⟩,⟨⟨rfl,rfl⟩,tv⟩,rfl,rfl⟩,by omega,?_⟩
 rintro i hi
 refine ⟨fun h=>?_,fun h=>?_⟩
 ·have hk:i<(bk v.steps).length:=by simpa using h
  have hs:=List.getElem?_eq_getElem hk
  generalize (bk v.steps)[i]=a at hs
  have fS:((bk v.steps).map I)[((i:Int)).toNat]?=some (I a):=by rw [Int.toNat_natCast,List.getElem?_map,hs]; rfl
  have cC:=Il (l:=v.steps) (it:=it) hs
  have Rw:=CL v.steps it ((bk v.steps).take i) []
  rw [List.length_take,List.length_nil] at Rw
  generalize ho:((bk v.steps).take i).foldl (kR v.steps it) []=o at *
  refine ⟨I a,fun _=>⟨by omega,fS⟩,?_⟩
  refine ⟨I a,fun _=>⟨by omega,fS⟩,?_⟩
  refine .inl ⟨_,fun _=>(eu v.steps a it hl).ok,?_⟩
  repeat first | refine ⟨id,?_⟩ | refine ⟨fun _ h=>cf h,?_⟩ | refine ⟨fun _ h=>ax h,?_⟩ | refine ⟨fun h=>⟨h,fun h2=>aQ h h2⟩,?_⟩ | refine ⟨fun h=>⟨h,fun h2=>aD h h2⟩,?_⟩
  refine ⟨by kernel_rfl,?_⟩
  repeat first | refine ⟨id,?_⟩ | refine ⟨fun _ h=>cf h,?_⟩ | refine ⟨fun _ h=>ax h,?_⟩ | refine ⟨fun h=>⟨h,fun h2=>aQ h h2⟩,?_⟩ | refine ⟨fun h=>⟨h,fun h2=>aD h h2⟩,?_⟩
  have aK:(bk v.steps).length - (i+1)<(bk v.steps).length - i:=by omega
  have jd:=um a it hl
  refine ⟨fun hc=>?_,fun hc=>?_⟩
  ·have hc:aL a it v.steps=0 ∨ 1048576≤a:=by
    have hc:(bif decide (aL a it v.steps=0) then true else decide (1048576≤a))=true:=hc
    by_cases h1:aL a it v.steps=0
    ·exact .inl h1
    ·right; simpa [h1] using hc
   have he:kR v.steps it o a=o:=if_pos hc
   exact ⟨fun _=>⟨by omega,by omega⟩,i+1,⟨⟨rfl,rf,rf,rf,DV.Le.of_eq (by rw [cC,he]),az (by omega),tv⟩,⟨⟨rfl,rfl⟩,tv⟩,rfl,rfl⟩,by omega,aK⟩
  ·have hc:¬ (aL a it v.steps=0 ∨ 1048576≤a):=by
    have hc:(bif decide (aL a it v.steps=0) then true else decide (1048576≤a))=false:=hc
    rintro (h1 | h1) <;> simp [h1] at hc
   have he:kR v.steps it o a=jI o (a,aL a it v.steps):=if_neg hc
   generalize hx:aL a it v.steps=x at *
   refine ⟨Nat,QK v it n i a o,fun k=>k≤o.length∧il o x k=il o x o.length,fun k=>k,o.length,fun _=>rfl,⟨⟨rfl,rf,rf,rf,rf,rf,rfl,az (by simp),tv⟩,⟨⟨rfl,rfl⟩,⟨rf,DV.Le.of_eq (by rw [hx]),tv⟩,tv⟩,rfl,rfl⟩,⟨by omega,rfl⟩,?_⟩
   rintro k ⟨HD,Aj⟩
   have xp:bw (decide (0<(k:Int))) true=true→0<k:=fun hb=>by
    by_cases h9:0<k
    ·exact h9
    ·rw [decide_eq_false (by omega)] at hb; cases hb
   repeat first | refine ⟨id,?_⟩ | refine ⟨fun _ h=>cf h,?_⟩ | refine ⟨fun _ h=>ax h,?_⟩ | refine ⟨fun h=>⟨h,fun h2=>aQ h h2⟩,?_⟩ | refine ⟨fun h=>⟨h,fun h2=>aD h h2⟩,?_⟩
   refine ⟨fun hb=>⟨by omega,by omega⟩,?_⟩
   repeat first | refine ⟨id,?_⟩ | refine ⟨fun _ h=>cf h,?_⟩ | refine ⟨fun _ h=>ax h,?_⟩ | refine ⟨fun h=>⟨h,fun h2=>aQ h h2⟩,?_⟩ | refine ⟨fun h=>⟨h,fun h2=>aD h h2⟩,?_⟩
   have QL:0<k→(o.map eR)[((k:Int) - 1).toNat]?=some (eR (o.getD (k - 1) (0,0))):=fun h0=>by
    rw [show ((k:Int) - 1).toNat=k - 1 by omega,List.getElem?_map,List.getD_eq_getElem?_getD,List.getElem?_eq_getElem (by omega)]; rfl
   refine ⟨eR (o.getD (k - 1) (0,0)),fun hb=>⟨by have:=xp hb; omega,QL (xp hb)⟩,?_⟩
   repeat first | refine ⟨id,?_⟩ | refine ⟨fun _ h=>cf h,?_⟩ | refine ⟨fun _ h=>ax h,?_⟩ | refine ⟨fun h=>⟨h,fun h2=>aQ h h2⟩,?_⟩ | refine ⟨fun h=>⟨h,fun h2=>aD h h2⟩,?_⟩
   refine ⟨by kernel_rfl,fun fW=>?_,fun fW=>?_⟩
   ·obtain ⟨h1,h2⟩:=yG fW
    have h1:=xp (ax h1)
    have h2:(o.getD (k - 1) (0,0)).2<x:=hx ▸ of_decide_eq_true h2
    obtain ⟨k',rfl⟩:∃k',k=k'+1:=⟨k - 1,by omega⟩
    simp only [Nat.add_sub_cancel] at h2
    have E4:il o x (k'+1)=il o x k':=by rw [il,if_pos h2]
    refine ⟨fun _=>⟨by omega,by omega⟩,k',⟨⟨rfl,rf,rf,rf,rf,rf,rfl,az (by simp),tv⟩,⟨⟨rfl,rfl⟩,⟨rf,rf,tv⟩,tv⟩,rfl,rfl⟩,⟨by omega,by rw [←E4]; exact Aj⟩,by show k'<k'+1; omega⟩
   ·have Ez:il o x o.length=k:=by
     rw [←Aj]
     cases k with
     | zero=>rfl
     | succ k' =>
      rw [il,if_neg]
      intro h9
      exact yH fW ⟨decide_eq_true (by omega),decide_eq_true (by rw [hx]; exact h9)⟩
    have Qt:List.drop (Option.getD none (0:Int)).toNat (List.take (Option.getD (some (k:Int)) ((o.map eR).length:Int)).toNat (o.map eR))=(o.take k).map eR:=by
     simp [List.map_take]
    have OO:List.drop (Option.getD (some (k:Int)) (0:Int)).toNat (List.take (Option.getD none ((o.map eR).length:Int)).toNat (o.map eR))=(o.drop k).map eR:=by
     simp [List.map_drop]
     rw [←List.length_map (f:=eR),List.take_length]
    have oQ:∀q:List Rk,(q.map eR).length=q.length:=fun q=>List.length_map ..
    refine ⟨fun _=>⟨Int.le_refl _,by show (0:Int)≤(k:Int); omega,by show (k:Int)≤((o.map eR).length:Int); rw [List.length_map]; omega⟩,.inr ⟨(o.take k).map eR,by rw [Qt]; exact dX.refl _,by rw [Nn,oQ,List.length_take]; omega,by rw [oQ,List.length_take]; omega,?_⟩⟩
    refine .inl ⟨[eR (a,x)],rfl,⟨rf,DV.Le.of_eq (by rw [hx]),tv⟩,fun y hy=>(by rcases List.mem_singleton.1 hy with rfl; rfl),.inr ⟨[eR (a,x)],dX.refl _,(by rw [Nn,oQ,List.length_take]; simp; omega),(by rw [oQ,List.length_take]; simp; omega),?_⟩⟩
    refine ⟨fun _=>⟨by show (0:Int)≤(k:Int); omega,by show (k:Int)≤((o.map eR).length:Int); rw [List.length_map]; omega,Int.le_refl _⟩,.inr ⟨(o.drop k).map eR,by rw [OO]; exact dX.refl _,by rw [Nn,List.length_append,oQ,oQ,List.length_take,List.length_drop]; simp; omega,by rw [List.length_append,oQ,oQ,List.length_take,List.length_drop]; simp; omega,?_⟩⟩
    have hZ:DV.sl 2 (EG ((o.take k).map eR++[eR (a,x)]++(o.drop k).map eR))=DV.sl 2 ((((bk v.steps).take (i+1)).foldl (kR v.steps it) []).map eR):=by
     have e:(o.take k).map eR++[eR (a,x)]++(o.drop k).map eR=(jI o (a,x)).map eR:=by
      unfold jI; rw [show il o (a,x).2 o.length=k from Ez]; simp
     rw [e,oc fun _=>rfl,cC,he]
    exact ⟨fun _=>⟨by omega,by omega⟩,i+1,⟨⟨rfl,rf,rf,rf,DV.Le.of_eq hZ,az (by omega),tv⟩,⟨⟨rfl,rfl⟩,tv⟩,rfl,rfl⟩,by omega,aK⟩
 ·have hk:i=(bk v.steps).length:=by
   have:¬ i<(bk v.steps).length:=by simpa using h
   omega
  refine ⟨fun _=>⟨Int.le_refl _,(AJ _ n).1,(AJ _ n).2.1⟩,_,_,⟨rfl,rfl⟩,by kernel_rfl,⟨DV.Le.of_eq (congrArg (DV.sl 2) ?_),tv⟩,⟨rfl,rfl⟩,tv⟩
  refine ((AJ _ n).2.2).trans ?_
  rw [hk,List.take_length]
  unfold Nj CD
  rw [List.map_take]
theorem wE (l:List Rk) (hl:l.length≤1000000):ct Tryz.prog 27 [.sl 2 (l.map eR),.sl 2 (l.map eR)] [B true]:=by
 refine bp aG mixed (aq _) (ar _) Tryz.func27 rfl (by kernel_rfl) rfl ?_
 refine ⟨fun h=>by simp at h,fun _=>?_⟩
 refine ⟨Nat,fun k=>⟨0,[(0,.dv (.sl 2 (l.map eR))),(1,.dv (.sl 2 (l.map eR))),(5,.dv (I k))],[]⟩,fun k=>k≤l.length,fun k=>l.length - k,0,fun _=>rfl,⟨⟨rf,rf,rf,tv⟩,tv,rfl,rfl⟩,by omega,?_⟩
 rintro k HD
 refine ⟨fun h=>?_,fun h=>?_⟩
 ·have hk:k<l.length:=by simpa using h
  have fS:(l.map eR)[((k:Int)).toNat]?=some (eR l[k]):=by rw [Int.toNat_natCast,List.getElem?_map,List.getElem?_eq_getElem hk]; rfl
  refine ⟨eR l[k],fun _=>⟨by omega,fS⟩,eR l[k],fun _=>⟨by omega,fS⟩,?_⟩
  refine ⟨by kernel_rfl,fun h=>?_,fun h=>?_⟩
  ·exfalso
   simp at h
  ·exact ⟨fun _=>⟨by omega,by omega⟩,k+1,⟨⟨rf,rf,az (by omega),tv⟩,tv,rfl,rfl⟩,by omega,by show l.length - (k+1)<l.length - k; omega⟩
 ·exact ⟨rf,tv⟩
def S4 (l:List Rk) (i:Nat):bh:=⟨1,[(0,.dv (.sl 2 (l.map eR))),(3,.own 0 0 0 []),(4,.dv (I i))],[(0,.tree 0 0 (.ay 2 ((l.take i).map eR)))]⟩
set_option maxHeartbeats 4000000 in
theorem wF (l:List Rk) (hl:l.length≤1000000):ct Tryz.prog 28 [.sl 2 (l.map eR)] [.sl 2 (l.map eR)]:=by
 refine bp aG mixed (aq _) (ar _) Tryz.func28 rfl (by kernel_rfl) rfl ?_
 refine ⟨Nat,S4 l,fun k=>k≤l.length,fun k=>l.length - k,0,fun _=>rfl,⟨⟨rf,⟨rfl,rfl,rfl,rfl,2,rfl⟩,rf,tv⟩,⟨⟨rfl,rfl,2,rfl⟩,tv⟩,rfl,rfl⟩,by omega,?_⟩
 rintro k HD
 refine ⟨fun h=>?_,fun h=>?_⟩
 ·have hk:k<l.length:=by simpa using h
  have fS:(l.map eR)[((k:Int)).toNat]?=some (eR l[k]):=by rw [Int.toNat_natCast,List.getElem?_map,List.getElem?_eq_getElem hk]; rfl
  have oQ:∀q:List Rk,(q.map eR).length=q.length:=fun q=>List.length_map ..
  refine ⟨eR l[k],fun _=>⟨by omega,fS⟩,eR l[k],fun _=>⟨by omega,fS⟩,?_⟩
  refine .inl ⟨[eR l[k]],rfl,⟨rf,rf,tv⟩,fun y hy=>(by rcases List.mem_singleton.1 hy with rfl; rfl),.inr ⟨[eR l[k]],dX.refl _,(by rw [Nn,oQ,List.length_take]; simp; omega),(by rw [oQ,List.length_take]; simp; omega),?_⟩⟩
  refine ⟨by kernel_rfl,fun _=>⟨by omega,by omega⟩,k+1,⟨⟨rf,rfl,az (by omega),tv⟩,⟨⟨rfl,?_⟩,tv⟩,rfl,rfl⟩,by omega,by show l.length - (k+1)<l.length - k; omega⟩
  show DV.ay 2 ((l.take k).map eR++[eR l[k]])=DV.ay 2 ((l.take (k+1)).map eR)
  rw [List.take_add_one,List.getElem?_eq_getElem hk]
  congr 1
  rw [List.map_append]; rfl
 ·have hk:k=l.length:=by
   have:¬ k<l.length:=by simpa using h
   omega
  refine ⟨DV.Le.of_eq ?_,tv⟩
  show DV.sl 2 (EG ((l.take k).map eR))=_
  rw [oc fun _=>rfl,hk,List.take_length]
end Go.Proofs.YtpbdohkbiklflaaGreatDoor
