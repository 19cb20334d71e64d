import Derived.Test.YtpbdohkbiklflaaGreatDoorNM12
set_option linter.unusedVariables false
set_option linter.unusedSimpArgs false
set_option linter.unusedSectionVars false
namespace Go.TM
open Go.RowKit
variable [Glob]
def Box.isNo:Box→Bool
 | .none=>true
 | _=>false
theorem isNo_none {b:Box} (h:b.isNo=true):b=.none:=by cases b <;> simp [Box.isNo] at h; rfl
def reH1 (m:Nat) (h:Nat→Nat→List PS→Option Value) (i V E v e:Nat):List PS→Option Value
 | []=>if v=(nfv m i V E).1∧e=0 then h V 0 [] else if i<m∧v=0∧e=0 then h 0 0 [] else none
 | s::q=>if v=(nfv m i V E).1∧e=(nfv m i V E).2 then h V E (s::q) else if i<m∧v=0∧e=0 then h 0 0 (s::q) else none
def bornH (v e:Nat) (p:List PS):Option Value:=match v,e,p with
 | 0,0,[]=>some (.slice none 0 0)
 | _,_,_=>none
def reH (m:Nat) (κ κ':Nat→Box) (H:Nat→Nat→Nat→List PS→Option Value) (i v e:Nat) (p:List PS):Option Value :=
 match (κ' i).isNo with
 | true=>none
 | false=>match κ i with
  | .tree V E _=>reH1 m (H i) i V E v e p
  | .fz V _=>reH1 m (H i) i V 0 v e p
  | .held=>reH1 m (H i) i 0 0 v e p
  | .none=>bornH v e p
  | _=>if i<m∧v=0∧e=0 then H i 0 0 p else none
def reβ (κ':Nat→Box) (β:Nat→Option Nat) (i:Nat):Option Nat:=match (κ' i).isNo with
 | true=>none
 | false=>β i
def reGh (m:Nat) (κ κ':Nat→Box) (G:Gh):Gh:={ G with β:=reβ κ' G.β,H:=reH m κ κ' G.H }
theorem nfv_fst (m i V E E':Nat):(nfv m i V E).1=(nfv m i V E').1:=by
 unfold nfv
 cases Nat.blt i m with
 | false=>rfl
 | true=>cases V with
  | zero=>cases E <;> cases E' <;> rfl
  | succ V=>rfl
theorem nfv_zero {m i V E:Nat} (hi:i<m) (h:(nfv m i V E).1=0):V=0∧((nfv m i V E).2=0→E=0):=by
 unfold nfv at *
 have hb:Nat.blt i m=true:=by rw [Nat.blt_eq]; exact hi
 rw [hb] at h ⊢
 cases V with
 | zero=>cases E with
  | zero=>exact ⟨rfl,fun _=>rfl⟩
  | succ E=>exact ⟨rfl,fun h=>by simp at h⟩
 | succ V=>simp at h
theorem nfv_out {m i V E:Nat} (hi:¬ i<m):nfv m i V E=(0,0):=by
 unfold nfv
 have hb:Nat.blt i m=false:=by cases hb:Nat.blt i m with | false=>rfl | true=>rw [Nat.blt_eq] at hb; exact absurd hb hi
 rw [hb]; rfl
theorem reH1_cur (m:Nat) (h:Nat→Nat→List PS→Option Value) (i V E:Nat) (s:PS) (q:List PS):reH1 m h i V E (nfv m i V E).1 0 []=h V 0 []∧reH1 m h i V E (nfv m i V E).1 (nfv m i V E).2 (s::q)=h V E (s::q):=by
 simp [reH1]
theorem reH1_old {m:Nat} {h:Nat→Nat→List PS→Option Value} {i V E:Nat} (hi:i<m) (p:List PS):reH1 m h i V E 0 0 p=h 0 0 p:=by
 cases p with
 | nil =>
  simp only [reH1]
  split
  ·rename_i hh; rw [(nfv_zero hi hh.1.symm).1]
  ·rw [if_pos (by simp [hi])]
 | cons s q =>
  simp only [reH1]
  split
  ·rename_i hh; obtain ⟨h1,h2⟩:=nfv_zero hi hh.1.symm; rw [h1,h2 hh.2.symm]
  ·rw [if_pos (by simp [hi])]
theorem reH1_hi {m:Nat} {h:Nat→Nat→List PS→Option Value} {i V E v:Nat} (hv:(nfv m i V E).1<v) (e:Nat) (p:List PS):reH1 m h i V E v e p=none:=by
 cases p with
 | nil=>simp only [reH1]; rw [if_neg (by omega),if_neg (by omega)]
 | cons s q=>simp only [reH1]; rw [if_neg (by omega),if_neg (by omega)]
theorem reH1_he {m:Nat} {h:Nat→Nat→List PS→Option Value} {i V E e:Nat} (hv:(nfv m i V E).2<e) (p:List PS):reH1 m h i V E (nfv m i V E).1 e p=none:=by
 cases p with
 | nil=>simp only [reH1]; rw [if_neg (by omega),if_neg (by omega)]
 | cons s q=>simp only [reH1]; rw [if_neg (by omega),if_neg (by omega)]
section
variable {m:Nat} {κ κ':Nat→Box} {G:Gh} {w:World}
theorem hdr_re {H:Nat→Nat→Nat→List PS→Option Value} {i V E:Nat} {d:DV} (hk:κ i=.tree V E d) (hn:(κ' i).isNo=false) (p:List PS):hdr (reH m κ κ' H) i (nfv m i V E).1 (nfv m i V E).2 p=hdr H i V E p:=by
 cases p with
 | nil=>simp only [hdr,reH,hn,hk]; exact (reH1_cur m (H i) i V E (.el 0 0) []).1
 | cons s q=>simp only [hdr,reH,hn,hk]; exact (reH1_cur m (H i) i V E s q).2
theorem nfv_00 (m i:Nat):nfv m i 0 0=(0,0):=by
 unfold nfv
 cases Nat.blt i m <;> rfl
theorem hdr_held {H:Nat→Nat→Nat→List PS→Option Value} {i:Nat} (hk:κ i=.held) (hn:(κ' i).isNo=false):hdr (reH m κ κ' H) i 0 0=hdr H i 0 0:=by
 have e:=nfv_00 m i
 funext p
 cases p with
 | nil =>
  simp only [hdr,reH,hn,hk]
  have:=(reH1_cur m (H i) i 0 0 (.el 0 0) []).1
  rw [e] at this; exact this
 | cons s q =>
  simp only [hdr,reH,hn,hk]
  have:=(reH1_cur m (H i) i 0 0 s q).2
  rw [e] at this; exact this
theorem held_two {a b:Box} (h:match a,b with | .held,.held=>True | _,_=>False):a=.held∧b=.held:=by
 split at h
 ·exact ⟨rfl,rfl⟩
 ·exact h.elim
theorem nrm_own {v:AV} {i ver ep:Nat} {p:List PS} (h:nrm m κ v=.own i ver ep p):(∃V E e d,v=.own i V e p∧κ i=.tree V E d∧(p=[] ∨ e=E)∧ver=(nfv m i V E).1∧ep=(nfv m i V E).2) ∨ ∃e,v=.own i 0 e p∧κ i=.held∧(p=[] ∨ e=0)∧ver=0∧ep=0:=by
 cases v with
 | own j V e q =>
  simp only [nrm] at h
  split at h
  ·rename_i V' E' d hk
   cases hb:Nat.beq V V' && (emp q || Nat.beq e E') with
   | false=>rw [hb] at h; cases h
   | true =>
    rw [hb] at h
    obtain ⟨rfl,hc⟩:=vis_cur hb
    simp only [cond_true,AV.own.injEq] at h
    obtain ⟨rfl,h1,h2,rfl⟩:=h
    exact .inl ⟨V,E',e,d,rfl,hk,hc,h1.symm,h2.symm⟩
  ·rename_i hk
   cases hb:Nat.beq V 0 && (emp q || Nat.beq e 0) with
   | false=>rw [hb] at h; cases h
   | true =>
    rw [hb] at h
    obtain ⟨rfl,hc⟩:=vis_cur hb
    simp only [cond_true,AV.own.injEq] at h
    obtain ⟨rfl,h1,h2,rfl⟩:=h
    exact .inr ⟨e,rfl,hk,hc,h1.symm,h2.symm⟩
  ·cases h
 | loc j V e q a b c =>
  simp only [nrm] at h
  split at h
  ·rename_i V' E' d hk
   cases hb:Nat.beq V V' && (emp q || Nat.beq e E') <;> rw [hb] at h <;> cases h
  ·cases h
 | pre j V e q a b c =>
  simp only [nrm] at h
  split at h
  ·rename_i V' E' d hk
   cases hb:Nat.beq V V' && (emp q || Nat.beq e E') <;> rw [hb] at h <;> cases h
  ·cases h
 | ownf j V =>
  simp only [nrm] at h
  split at h
  ·rename_i V' E' d hk
   cases hb:Nat.beq V V' <;> rw [hb] at h <;> cases h
  ·cases h
 | _=>simp [nrm] at h
theorem nrm_ownf {v:AV} {i ver:Nat} (h:nrm m κ v=.ownf i ver):∃V E d,v=.ownf i V∧κ i=.tree V E d∧ver=(nfv m i V E).1:=by
 cases v with
 | ownf j V =>
  simp only [nrm] at h
  split at h
  ·rename_i V' E' d hk
   cases hb:Nat.beq V V' with
   | false=>rw [hb] at h; cases h
   | true =>
    rw [hb] at h
    have:=Nat.eq_of_beq_eq_true hb
    subst this
    simp only [cond_true,AV.ownf.injEq] at h
    obtain ⟨rfl,h1⟩:=h
    exact ⟨V,E',d,rfl,hk,h1.symm⟩
  ·cases h
 | own j V e q =>
  simp only [nrm] at h
  split at h
  ·rename_i V' E' d hk
   cases hb:Nat.beq V V' && (emp q || Nat.beq e E') <;> rw [hb] at h <;> cases h
  ·cases hb:Nat.beq V 0 && (emp q || Nat.beq e 0) <;> rw [hb] at h <;> cases h
  ·cases h
 | loc j V e q a b c =>
  simp only [nrm] at h
  split at h
  ·rename_i V' E' d hk
   cases hb:Nat.beq V V' && (emp q || Nat.beq e E') <;> rw [hb] at h <;> cases h
  ·cases h
 | pre j V e q a b c =>
  simp only [nrm] at h
  split at h
  ·rename_i V' E' d hk
   cases hb:Nat.beq V V' && (emp q || Nat.beq e E') <;> rw [hb] at h <;> cases h
  ·cases h
 | _=>simp [nrm] at h
theorem nrm_loc {v:AV} {i ver ep a b c:Nat} {p:List PS} (h:nrm m κ v=.loc i ver ep p a b c):∃V E e d,v=.loc i V e p a b c∧κ i=.tree V E d∧(p=[] ∨ e=E)∧ver=(nfv m i V E).1∧ep=(nfv m i V E).2:=by
 cases v with
 | loc j V e q a b c =>
  simp only [nrm] at h
  split at h
  ·rename_i V' E' d hk
   cases hb:Nat.beq V V' && (emp q || Nat.beq e E') with
   | false=>rw [hb] at h; cases h
   | true =>
    rw [hb] at h
    obtain ⟨rfl,hc⟩:=vis_cur hb
    simp only [cond_true,AV.loc.injEq] at h
    obtain ⟨rfl,h1,h2,rfl,rfl,rfl,rfl⟩:=h
    exact ⟨V,E',e,d,rfl,hk,hc,h1.symm,h2.symm⟩
  ·cases h
 | pre j V e q a b c =>
  simp only [nrm] at h
  split at h
  ·rename_i V' E' d hk
   cases hb:Nat.beq V V' && (emp q || Nat.beq e E') <;> rw [hb] at h <;> cases h
  ·cases h
 | own j V e q =>
  simp only [nrm] at h
  split at h
  ·rename_i V' E' d hk
   cases hb:Nat.beq V V' && (emp q || Nat.beq e E') <;> rw [hb] at h <;> cases h
  ·cases hb:Nat.beq V 0 && (emp q || Nat.beq e 0) <;> rw [hb] at h <;> cases h
  ·cases h
 | ownf j V =>
  simp only [nrm] at h
  split at h
  ·rename_i V' E' d hk
   cases hb:Nat.beq V V' <;> rw [hb] at h <;> cases h
  ·cases h
 | _=>simp [nrm] at h
theorem nrm_pre {v:AV} {i ver ep a b c:Nat} {p:List PS} (h:nrm m κ v=.pre i ver ep p a b c):∃V E e d,v=.pre i V e p a b c∧κ i=.tree V E d∧(p=[] ∨ e=E)∧ver=(nfv m i V E).1∧ep=(nfv m i V E).2:=by
 cases v with
 | pre j V e q a b c =>
  simp only [nrm] at h
  split at h
  ·rename_i V' E' d hk
   cases hb:Nat.beq V V' && (emp q || Nat.beq e E') with
   | false=>rw [hb] at h; cases h
   | true =>
    rw [hb] at h
    obtain ⟨rfl,hc⟩:=vis_cur hb
    simp only [cond_true,AV.pre.injEq] at h
    obtain ⟨rfl,h1,h2,rfl,rfl,rfl,rfl⟩:=h
    exact ⟨V,E',e,d,rfl,hk,hc,h1.symm,h2.symm⟩
  ·cases h
 | loc j V e q a b c =>
  simp only [nrm] at h
  split at h
  ·rename_i V' E' d hk
   cases hb:Nat.beq V V' && (emp q || Nat.beq e E') <;> rw [hb] at h <;> cases h
  ·cases h
 | own j V e q =>
  simp only [nrm] at h
  split at h
  ·rename_i V' E' d hk
   cases hb:Nat.beq V V' && (emp q || Nat.beq e E') <;> rw [hb] at h <;> cases h
  ·cases hb:Nat.beq V 0 && (emp q || Nat.beq e 0) <;> rw [hb] at h <;> cases h
  ·cases h
 | ownf j V =>
  simp only [nrm] at h
  split at h
  ·rename_i V' E' d hk
   cases hb:Nat.beq V V' <;> rw [hb] at h <;> cases h
  ·cases h
 | _=>simp [nrm] at h
theorem isPt_no {b:Box} (h:b.isPt=true):b.isNo=false:=by cases b <;> simp [Box.isPt] at h <;> rfl
theorem isV_no {b:Box} {v e:Nat} (h:b.isV v e=true):b.isNo=false:=by cases b <;> simp [Box.isV] at h <;> rfl
theorem subWs_length:∀{l' l:List AV},subWs m κ κ' l' l→l'.length=l.length
 | [],[],_=>rfl
 | [],_::_,h=>by simp [subWs] at h
 | _::_,[],h=>by simp [subWs] at h
 | _::_,_::_,h=>by simp only [subWs] at h; simp [subWs_length h.2]
theorem subW_rel {κc:Nat→Box} {F:List Nat} {G1:Gh} (hle:Gh.Le G G1) (hβ:G1.β=G.β) (hH:G1.H=G.H) (hag1:∀i,i∈F→κc i=κ i) (hfz:Fit G1 w (updl κc (frz κ F))):∀(N:Nat),
  (∀(u v:AV) (x:Value),SizeOf.sizeOf u<N→subW m κ κ' u v→AV.sc κ' u=true→(∀i,i∈fidw κ u v→i∈F)→VRel G v x→VRel (reGh m κ κ' G1) u x) ∧
  (∀(us vs:List AV) (xs:List Value),SizeOf.sizeOf us<N→subWs m κ κ' us vs→AV.scs κ' us=true→(∀i,i∈fidws κ us vs→i∈F)→CRel G vs xs→CRel (reGh m κ κ' G1) us xs):=by
 intro N
 induction N with
 | zero=>exact ⟨fun _ _ _ h=>by omega,fun _ _ _ h=>by omega⟩
 | succ N ih =>
  have hbet:∀{i b:Nat},G.β i=some b→(κ' i).isNo=false→(reGh m κ κ' G1).β i=some b:=fun {i b} h hn=>by simp only [reGh,reβ,hn,hβ]; exact h
  refine ⟨fun u v x hsz hs hc hF hv=>?_,fun us vs xs hsz hs hc hF hr=>?_⟩
  ·cases u with
   | any=>exact .any _
   | dv d' =>
    simp only [subW,subD] at hs
    split at hs
    ·rename_i d ids hd
     simp only [fidw,idsD,hd] at hF
     exact .dv (hs _ x (toD_sound (κ:=κ) (κ':=κc) (w:=w) (G':=G1) hd hF hag1 hle hfz hv))
    ·exact hs.elim
   | agg l' =>
    cases v with
    | agg l =>
     simp only [subW] at hs
     simp only [AV.sc] at hc
     simp only [fidw] at hF
     cases hv with | agg _ ys hl hr =>
     have:=ih.2 l' l ys (by simp at hsz; omega) hs hc hF ⟨hl,hr⟩
     exact .agg l' ys this.1 this.2
    | _=>simp [subW] at hs
   | tup l' =>
    cases v with
    | tup l =>
     simp only [subW] at hs
     simp only [AV.sc] at hc
     simp only [fidw] at hF
     cases hv with | tup _ ys hl hr =>
     have:=ih.2 l' l ys (by simp at hsz; omega) hs hc hF ⟨hl,hr⟩
     exact .tup l' ys this.1 this.2
    | _=>simp [subW] at hs
   | fn f' l' =>
    cases v with
    | fn f l =>
     simp only [subW] at hs
     simp only [AV.sc] at hc
     simp only [fidw] at hF
     obtain ⟨rfl,hs⟩:=hs
     cases hv with | fn _ _ ys hl hr =>
     have:=ih.2 l' l ys (by simp at hsz; omega) hs hc hF ⟨hl,hr⟩
     exact .fn f l' ys this.1 this.2
    | _=>simp [subW] at hs
   | bfn f' l' =>
    cases v with
    | bfn f l =>
     simp only [subW] at hs
     simp only [AV.sc] at hc
     simp only [fidw] at hF
     obtain ⟨rfl,hs⟩:=hs
     cases hv with | bfn _ _ ys hl hr =>
     have:=ih.2 l' l ys (by simp at hsz; omega) hs hc hF ⟨hl,hr⟩
     exact .bfn f l' ys this.1 this.2
    | _=>simp [subW] at hs
   | ptr i off =>
    simp only [subW] at hs
    simp only [AV.sc] at hc
    subst hs
    cases hv with | ptr _ _ b hb=>exact .ptr i off b (hbet hb (isPt_no hc))
   | yld i =>
    simp only [subW] at hs
    simp only [AV.sc] at hc
    subst hs
    cases hv with | yld _ l hb=>exact .yld i l (hbet hb (isPt_no hc))
   | sle i k =>
    simp only [subW] at hs
    simp only [AV.sc] at hc
    subst hs
    cases hv with | sle _ _ b hb=>exact .sle i k b (hbet hb (isPt_no hc))
   | own i ver ep p =>
    simp only [subW] at hs
    simp only [AV.sc] at hc
    have hno:=isV_no hc
    unfold subOwn at hs
    split at hs
    ·obtain ⟨rfl,rfl,rfl,hb,sz,hb'⟩:=hs
     cases hv with | dv hv=>cases hv with | nils =>
     refine .own i 0 0 [] _ ?_ rfl
     simp only [hdr,reGh,reH,hno,hb,bornH]
    ·rcases nrm_own hs with ⟨V,E,e,d,hdv,hk,hcur,rfl,rfl⟩ | ⟨e,hdv,hk,hcur,rfl,rfl⟩
     ·have hv:=dn_ok hv
      rw [hdv] at hv
      cases hv with | own _ _ _ _ _ hh hcc =>
      refine .own i _ _ p x ?_ hcc
      rw [hdr_cur hcur] at hh
      simp only [reGh]
      rw [hdr_re hk hno,hH]; exact hh
     ·have hv:=dn_ok hv
      rw [hdv] at hv
      cases hv with | own _ _ _ _ _ hh hcc =>
      refine .own i _ _ p x ?_ hcc
      rw [hdr_cur hcur] at hh
      simp only [reGh]
      rw [hdr_held hk hno,hH]; exact hh
   | loc i ver ep p a b c =>
    simp only [subW] at hs
    simp only [AV.sc] at hc
    have hno:=isV_no hc
    obtain ⟨V,E,e,d,rfl,hk,hcur,rfl,rfl⟩:=nrm_loc hs
    cases hv with
    | loc _ _ _ _ _ _ _ A q q' hh =>
     refine .loc i _ _ p a b c A q q' ?_
     rw [hdr_cur hcur] at hh
     simp only [reGh]
     rw [hdr_re hk hno,hH]; exact hh
    | locp _ _ _ _ _ _ _ A hh =>
     refine .locp i _ _ p a b c A ?_
     rw [hdr_cur hcur] at hh
     simp only [reGh]
     rw [hdr_re hk hno,hH]; exact hh
   | pre i ver ep p a b c =>
    simp only [subW] at hs
    simp only [AV.sc] at hc
    have hno:=isV_no hc
    obtain ⟨V,E,e,d,rfl,hk,hcur,rfl,rfl⟩:=nrm_pre hs
    cases hv with
    | pre _ _ _ _ _ _ _ q q' hh =>
     refine .pre i _ _ p a b c q q' fun hn=>?_
     obtain ⟨A,N,c',hh,e2⟩:=hh hn
     refine ⟨A,N,c',?_,e2⟩
     rw [hdr_cur hcur] at hh
     simp only [reGh]
     rw [hdr_re hk hno,hH]; exact hh
   | ownf i ver =>
    simp only [subW] at hs
    simp only [AV.sc] at hc
    have hno:=isV_no hc
    obtain ⟨V,E,d,rfl,hk,rfl⟩:=nrm_ownf hs
    cases hv with | ownf _ _ A q hh =>
    refine .ownf i _ A q ?_
    have:=hdr_re (m:=m) (H:=G1.H) hk hno []
    simp only [hdr] at this
    simp only [reGh]
    rw [this,hH]; exact hh
   | opt g u=>simp [AV.sc] at hc
  ·cases us with
   | nil =>
    cases vs with
    | nil=>exact ⟨hr.1,by simp⟩
    | cons=>simp [subWs] at hs
   | cons u us =>
    cases vs with
    | nil=>simp [subWs] at hs
    | cons v vs =>
     simp only [subWs] at hs
     simp only [AV.scs,Bool.and_eq_true] at hc
     simp only [fidws] at hF
     match xs,hr with
     | [],hr=>have:=hr.1; simp at this
     | x::xs,hr =>
      have h1:=ih.1 u v x (by simp at hsz; omega) hs.1 hc.1 (fun i hi=>hF i (by simp [hi])) (hr.2 0 v x rfl rfl)
      have h2:=ih.2 us vs xs (by simp at hsz; omega) hs.2 hc.2 (fun i hi=>hF i (by simp [hi])) ⟨by simpa using hr.1,fun q e y he hy=>hr.2 (q+1) e y (by simpa using he) (by simpa using hy)⟩
      refine ⟨by simp [h2.1],fun j d y hd hy=>?_⟩
      cases j with
      | zero=>simp at hd hy; subst hd; subst hy; exact h1
      | succ j=>exact h2.2 j d y (by simpa using hd) (by simpa using hy)
theorem frOk_mem:∀{F:List Nat},frOk κ' F=true→∀i,i∈F→∀v e d,κ' i ≠ .tree v e d
 | [],_,i,hi,_,_,_=>by simp at hi
 | j::F,h,i,hi,v,e,d=>by
  simp only [frOk,Bool.and_eq_true] at h
  rcases List.mem_cons.1 hi with rfl | hi
  ·intro hk; rw [hk] at h; cases h.1
  ·exact frOk_mem h.2 i hi v e d
def SubAt (m:Nat) (κ κ':Nat→Box) (F:List Nat) (i:Nat):Prop:=subX m κ κ' i (κ i) (κ' i)∧(κ' i).wfc κ'=true∧∀j,j∈fidsX κ i (κ i) (κ' i)→j∈F
theorem reFit {κc:Nat→Box} {F:List Nat} {G1:Gh} (hf:Fit G w κc) (hle:Gh.Le G G1) (hβ:G1.β=G.β) (hH:G1.H=G.H) (hX:G1.X=G.X) (hag1:∀i,i∈F→κc i=κ i) (hag2:∀i,(κ' i).isNo=false→κc i=κ i) (hfz:Fit G1 w (updl κc (frz κ F))) (hfr:frOk κ' F=true) (hs:∀i,SubAt m κ κ' F i) :
  Fit (reGh m κ κ' G1) w κ'∧∀i b,Own (reGh m κ κ' G1) i (κ' i) b→Own G1 i (updl κc (frz κ F) i) b:=by
 have hat0:=updl_frz (κ:=κ) (κ':=κc) (ids:=F) hag1
 have hat:∀j,(κ' j).isNo=false→updl κc (frz κ F) j=if j∈F then (κ j).frozenOf else κ j:=fun j hj=>by rw [hat0,hag2 j hj]
 have hback:∀i b,Own (reGh m κ κ' G1) i (κ' i) b→Own G1 i (updl κc (frz κ F) i) b:=by
  intro i b ho
  obtain ⟨hx,hwf,hid⟩:=hs i
  cases hk':κ' i with
  | none=>rw [hk'] at ho; exact ho.elim
  | dead=>rw [hk'] at ho; exact ho.elim
  | fz=>rw [hk'] at ho; exact ho.elim
  | cells l' =>
   rw [hk'] at ho hx
   cases hk:κ i with
   | cells l =>
    have hbx:updl κc (frz κ F) i=.cells l:=by rw [hat i (by rw [hk']; rfl),hk]; simp [Box.frozenOf]
    rw [hbx]
    simp only [Own,reGh,reβ,hk',Box.isNo] at ho ⊢
    exact ho
   | _=>rw [hk] at hx; exact hx.elim
  | tree v e d' =>
   rw [hk'] at ho hx
   cases hk:κ i with
   | tree V E d =>
    rw [hk] at hx
    simp only [subX] at hx
    obtain ⟨hx,rfl⟩:=hx
    have hnf:i ∉ F:=fun hi=>frOk_mem hfr i hi _ _ _ hk'
    have hbx:updl κc (frz κ F) i=.tree V E d:=by rw [hat i (by rw [hk']; rfl),if_neg hnf,hk]
    rw [hbx]
    have e1:v=(nfv m i V E).1:=by rw [hx]
    have e2:e=(nfv m i V E).2:=by rw [hx]
    subst e1; subst e2
    obtain ⟨p,nd,u,h1,h2,h3,h4⟩:=ho
    simp only [reGh] at h3
    rw [hdr_re hk (by rw [hk']; rfl)] at h3
    exact ⟨p,nd,u,h1,h2,h3,h4⟩
   | none =>
    rw [hk] at hx
    simp only [subX] at hx
    obtain ⟨rfl,rfl,sz,rfl⟩:=hx
    obtain ⟨p,nd,u,h1,h2,h3,h4⟩:=ho
    cases p with
    | nil =>
     simp only [hdr,reGh,reH,hk',Box.isNo,hk,bornH,Option.some.injEq] at h3
     subst h3; simp [blk] at h4
    | cons s p=>cases s <;> simp [get,step] at h1
   | _=>rw [hk] at hx; exact hx.elim
  | rcd rc st l' =>
   rw [hk'] at ho hx
   cases hk:κ i with
   | rcd rc0 st0 l =>
    have hbx:updl κc (frz κ F) i=.rcd rc0 st0 l:=by rw [hat i (by rw [hk']; rfl),hk]; simp [Box.frozenOf]
    rw [hbx]
    simp only [Own,reGh,reβ,hk',Box.isNo] at ho ⊢
    exact ho
   | _=>rw [hk] at hx; exact hx.elim
  | held=>rw [hk'] at ho; exact ho.elim
  | itr j' p' d' left' cur' =>
   rw [hk'] at ho hx
   cases hk:κ i with
   | itr j p d left cur =>
    rw [hk] at hx
    simp only [subX] at hx
    obtain ⟨rfl,rfl,rfl,rfl,_,hh⟩:=hx
    obtain ⟨e1,e2⟩:=held_two hh
    have hbx:updl κc (frz κ F) i=.itr j p d left cur:=by rw [hat i (by rw [hk']; rfl),hk]; simp [Box.frozenOf]
    rw [hbx]
    simp only [Own,reGh,reβ,hk',Box.isNo] at ho ⊢
    rw [hdr_held e1 (by rw [e2]; rfl)] at ho
    exact ho
   | _=>rw [hk] at hx; exact hx.elim
 refine ⟨⟨hfz.sub,fun i=>?_,fun i b ho=>hfz.own i b (hback i b ho),fun i j b ho ho'=>hfz.inj i j b (hback i b ho) (hback j b ho')⟩,hback⟩
 obtain ⟨hx,hwf,hid⟩:=hs i
 have hb1:=hfz.box i
 cases hk':κ' i with
 | none=>exact ⟨by simp [reGh,reβ,hk',Box.isNo],fun v e p=>by simp [reGh,reH,hk',Box.isNo]⟩
 | dead=>trivial
 | cells l' =>
  rw [hk'] at hx hwf hid
  cases hk:κ i with
  | cells l =>
   rw [hk] at hx hid
   simp only [subX] at hx
   simp only [fidsX] at hid
   simp only [Box.wfc,Bool.and_eq_true] at hwf
   have hb:=hf.box i
   rw [hag2 i (by rw [hk']; rfl),hk] at hb
   obtain ⟨b,c,t,hb0,hw,hsz,hcl,hr⟩:=hb
   have hlen:=subWs_length hx
   refine ⟨b,c,t,by simp only [reGh,reβ,hk',Box.isNo,hβ]; exact hb0,hw,by rw [hsz,hlen],allCell_mem hwf.2,fun j d v hd hv=>?_⟩
   have:=(subW_rel (m:=m) (κ:=κ) (κ':=κ') (w:=w) hle hβ hH hag1 hfz (SizeOf.sizeOf l'+1)).2 l' l c.toList (by omega) hx hwf.1 hid ⟨by simp [hsz],fun j d v hd hv=>hr j d v hd (by simpa using hv)⟩
   exact this.2 j d v hd (by simpa using hv)
  | _=>rw [hk] at hx; exact hx.elim
 | tree v e d' =>
  rw [hk'] at hx
  cases hk:κ i with
  | tree V E d =>
   rw [hk] at hx
   simp only [subX] at hx
   obtain ⟨hx,rfl⟩:=hx
   have hnf:i ∉ F:=fun hi=>frOk_mem hfr i hi _ _ _ hk'
   rw [hat i (by rw [hk']; rfl),if_neg hnf,hk] at hb1
   have e1:v=(nfv m i V E).1:=by rw [hx]
   have e2:e=(nfv m i V E).2:=by rw [hx]
   subst e1; subst e2
   have hno:(κ' i).isNo=false:=by rw [hk']; rfl
   have hhd:hdr (reGh m κ κ' G1).H i (nfv m i V E).1 (nfv m i V E).2=hdr G1.H i V E:=funext fun p=>by simp only [reGh]; exact hdr_re hk hno p
   refine ⟨?_,?_,fun v hv e p=>?_,fun e he p=>?_⟩
   ·rw [hhd]; exact hb1.1
   ·rw [hhd]; exact hb1.2.1
   ·simp only [reGh,reH,hno,hk]; exact reH1_hi hv e p
   ·simp only [reGh,reH,hno,hk]; exact reH1_he he p
  | none =>
   rw [hk] at hx
   simp only [subX] at hx
   obtain ⟨rfl,rfl,sz,rfl⟩:=hx
   have hno:(κ' i).isNo=false:=by rw [hk']; rfl
   have h0:hdr (reGh m κ κ' G1).H i 0 0 []=some (.slice none 0 0):=by simp only [hdr,reGh,reH,hno,hk,bornH]
   refine ⟨⟨rfl,fun p nd hp hn=>?_⟩,?_,fun v hv e p=>?_,fun e he p=>?_⟩
   ·cases p with
    | nil =>
     simp only [get,Option.some.injEq] at hp
     subst hp
     exact ⟨_,h0,rfl,.inl ⟨rfl,rfl⟩⟩
    | cons s p=>cases s <;> simp [get,step] at hp
   ·intro p q nd md u v b h1 h2 h3 h4 h5 h6 h7 h8
    cases p with
    | nil=>rw [h0] at h3; injection h3 with h3; subst h3; simp [blk] at h4
    | cons s p=>cases s <;> simp [get,step] at h1
   ·simp only [reGh,reH,hno,hk]
    cases v with
    | zero=>omega
    | succ v=>rfl
   ·simp only [reGh,reH,hno,hk]
    cases e with
    | zero=>omega
    | succ e=>rfl
  | _=>rw [hk] at hx; exact hx.elim
 | fz v d' =>
  rw [hk'] at hx hid
  have hno:(κ' i).isNo=false:=by rw [hk']; rfl
  cases hk:κ i with
  | tree V E d =>
   rw [hk] at hx hid
   simp only [subX] at hx
   obtain ⟨rfl,hx⟩:=hx
   have hi:i∈F:=hid i (by simp [fidsX])
   rw [hat i hno,if_pos hi,hk] at hb1
   obtain ⟨u,h1,h2,h3⟩:=hb1
   refine ⟨u,?_,h2,hx _ _ h3⟩
   simp only [reGh,reH,hno,hk]
   rw [nfv_fst m i V 0 E,(reH1_cur m (G1.H i) i V E (.el 0 0) []).1]
   exact h1
  | fz V d =>
   rw [hk] at hx
   simp only [subX] at hx
   obtain ⟨rfl,hx⟩:=hx
   have hbx:updl κc (frz κ F) i=.fz V d:=by rw [hat i hno,hk]; simp [Box.frozenOf]
   rw [hbx] at hb1
   obtain ⟨u,h1,h2,h3⟩:=hb1
   refine ⟨u,?_,h2,hx _ _ h3⟩
   simp only [reGh,reH,hno,hk]
   rw [(reH1_cur m (G1.H i) i V 0 (.el 0 0) []).1]
   exact h1
  | _=>rw [hk] at hx; exact hx.elim
 | rcd rc st l' =>
  rw [hk'] at hx hwf hid
  cases hk:κ i with
  | rcd rc0 st0 l =>
   rw [hk] at hx hid
   simp only [subX] at hx
   simp only [fidsX] at hid
   simp only [Box.wfc] at hwf
   obtain ⟨rfl,rfl,hx⟩:=hx
   have hb:=hf.box i
   rw [hag2 i (by rw [hk']; rfl),hk] at hb
   obtain ⟨b,fn,tmps,D,hb0,hw,hr⟩:=hb
   exact ⟨b,fn,tmps,D,by simp only [reGh,reβ,hk',Box.isNo,hβ]; exact hb0,hw,(subW_rel (m:=m) (κ:=κ) (κ':=κ') (w:=w) hle hβ hH hag1 hfz (SizeOf.sizeOf l'+1)).2 l' l tmps.toList (by omega) hx hwf hid hr⟩
  | _=>rw [hk] at hx; exact hx.elim
 | held =>
  rw [hk'] at hx
  cases hk:κ i with
  | held =>
   have hno:(κ' i).isNo=false:=by rw [hk']; rfl
   refine ⟨fun v hv e p=>?_,fun e he p=>?_⟩
   ·simp only [reGh,reH,hno,hk]
    exact reH1_hi (by rw [nfv_00]; exact hv) e p
   ·simp only [reGh,reH,hno,hk]
    have:=reH1_he (m:=m) (h:=G1.H i) (i:=i) (V:=0) (E:=0) (e:=e) (by rw [nfv_00]; exact he) p
    rw [nfv_00] at this
    exact this
  | _=>rw [hk] at hx; exact hx.elim
 | itr j' p' d' left' cur' =>
  rw [hk'] at hx
  cases hk:κ i with
  | itr j p d left cur =>
   rw [hk] at hx
   simp only [subX] at hx
   obtain ⟨rfl,rfl,rfl,rfl,hc,hh⟩:=hx
   obtain ⟨e1,e2⟩:=held_two hh
   have hno:(κ' i).isNo=false:=by rw [hk']; rfl
   rw [hat i hno,hk] at hb1
   simp only [Box.frozenOf,ite_self] at hb1
   obtain ⟨r,mb,es,clock,seen,ks,mm,hi⟩:=hb1
   have hhd:hdr (reGh m κ κ' G1).H j 0 0=hdr G1.H j 0 0:=hdr_held e1 (by rw [e2]; rfl)
   refine ⟨r,mb,es,clock,seen,ks,mm,by simp only [reGh,reβ,hno]; exact hi.bet,hi.it,by rw [hhd]; exact hi.tree,by rw [hhd]; exact hi.inj,hi.node,by rw [hhd]; exact hi.head,hi.map,hi.left,?_⟩
   rcases hc with rfl | rfl
   ·trivial
   ·exact hi.cur
  | _=>rw [hk] at hx; exact hx.elim
end
end Go.TM
