import Derived.Test.YtpjpdomkcabfcaaDoorK1M10
import Derived.Sort.LoopGhostIn
import Derived.RangeFuncRecord
set_option linter.unusedVariables false
set_option linter.unusedSimpArgs false
set_option linter.unusedSectionVars false
namespace Go.TM
open Go.RowKit
variable [Glob]
def Box.isNo:Box→Bool
 | .none=>true
 | _=>false
theorem isNo_none {b:Box} (h:b.isNo=true):b=.none:=by cases b <;> simp [Box.isNo] at h; rfl
def reH1 (m:Nat) (h:Nat→Nat→List PS→Option Value) (i V E v e:Nat):List PS→Option Value
 | []=>if v=(nfv m i V E).1∧e=0 then h V 0 [] else if i<m∧v=0∧e=0 then h 0 0 [] else none
 | s::q=>if v=(nfv m i V E).1∧e=(nfv m i V E).2 then h V E (s::q) else if i<m∧v=0∧e=0 then h 0 0 (s::q) else none
def bornH (v e:Nat) (p:List PS):Option Value:=match v,e,p with
 | 0,0,[]=>some (.slice none 0 0)
 | _,_,_=>none
def reH (m:Nat) (κ κ':Nat→Box) (H:Nat→Nat→Nat→List PS→Option Value) (i v e:Nat) (p:List PS):Option Value :=
 match (κ' i).isNo with
 | true=>none
 | false=>match κ i with
  | .tree V E _=>reH1 m (H i) i V E v e p
  | .fz V _=>reH1 m (H i) i V 0 v e p
  | .none=>bornH v e p
  | _=>if i<m∧v=0∧e=0 then H i 0 0 p else none
def reβ (κ':Nat→Box) (β:Nat→Option Nat) (i:Nat):Option Nat:=match (κ' i).isNo with
 | true=>none
 | false=>β i
def reGh (m:Nat) (κ κ':Nat→Box) (G:Gh):Gh:={ G with β:=reβ κ' G.β,H:=reH m κ κ' G.H }
theorem nfv_fst (m i V E E':Nat):(nfv m i V E).1=(nfv m i V E').1:=by
 unfold nfv
 cases Nat.blt i m with
 | false=>rfl
 | true=>cases V with
  | zero=>cases E <;> cases E' <;> rfl
  | succ V=>rfl
theorem nfv_zero {m i V E:Nat} (hi:i<m) (h:(nfv m i V E).1=0):V=0∧((nfv m i V E).2=0→E=0):=by
 unfold nfv at *
 have hb:Nat.blt i m=true:=by rw [Nat.blt_eq]; exact hi
 rw [hb] at h ⊢
 cases V with
 | zero=>cases E with
  | zero=>exact ⟨rfl,fun _=>rfl⟩
  | succ E=>exact ⟨rfl,fun h=>by simp at h⟩
 | succ V=>simp at h
theorem nfv_out {m i V E:Nat} (hi:¬ i<m):nfv m i V E=(0,0):=by
 unfold nfv
 have hb:Nat.blt i m=false:=by cases hb:Nat.blt i m with | false=>rfl | true=>rw [Nat.blt_eq] at hb; exact absurd hb hi
 rw [hb]; rfl
theorem reH1_cur (m:Nat) (h:Nat→Nat→List PS→Option Value) (i V E:Nat) (s:PS) (q:List PS):reH1 m h i V E (nfv m i V E).1 0 []=h V 0 []∧reH1 m h i V E (nfv m i V E).1 (nfv m i V E).2 (s::q)=h V E (s::q):=by
 simp [reH1]
theorem reH1_old {m:Nat} {h:Nat→Nat→List PS→Option Value} {i V E:Nat} (hi:i<m) (p:List PS):reH1 m h i V E 0 0 p=h 0 0 p:=by
 cases p with
 | nil =>
  simp only [reH1]
  split
  ·rename_i hh; rw [(nfv_zero hi hh.1.symm).1]
  ·rw [if_pos (by simp [hi])]
 | cons s q =>
  simp only [reH1]
  split
  ·rename_i hh; obtain ⟨h1,h2⟩:=nfv_zero hi hh.1.symm; rw [h1,h2 hh.2.symm]
  ·rw [if_pos (by simp [hi])]
theorem reH1_hi {m:Nat} {h:Nat→Nat→List PS→Option Value} {i V E v:Nat} (hv:(nfv m i V E).1<v) (e:Nat) (p:List PS):reH1 m h i V E v e p=none:=by
 cases p with
 | nil=>simp only [reH1]; rw [if_neg (by omega),if_neg (by omega)]
 | cons s q=>simp only [reH1]; rw [if_neg (by omega),if_neg (by omega)]
theorem reH1_he {m:Nat} {h:Nat→Nat→List PS→Option Value} {i V E e:Nat} (hv:(nfv m i V E).2<e) (p:List PS):reH1 m h i V E (nfv m i V E).1 e p=none:=by
 cases p with
 | nil=>simp only [reH1]; rw [if_neg (by omega),if_neg (by omega)]
 | cons s q=>simp only [reH1]; rw [if_neg (by omega),if_neg (by omega)]
section
variable {m:Nat} {κ κ':Nat→Box} {G:Gh} {w:World}
theorem hdr_re {H:Nat→Nat→Nat→List PS→Option Value} {i V E:Nat} {d:DV} (hk:κ i=.tree V E d) (hn:(κ' i).isNo=false) (p:List PS):hdr (reH m κ κ' H) i (nfv m i V E).1 (nfv m i V E).2 p=hdr H i V E p:=by
 cases p with
 | nil=>simp only [hdr,reH,hn,hk]; exact (reH1_cur m (H i) i V E (.el 0 0) []).1
 | cons s q=>simp only [hdr,reH,hn,hk]; exact (reH1_cur m (H i) i V E s q).2
theorem nrm_own {v:AV} {i ver ep:Nat} {p:List PS} (h:nrm m κ v=.own i ver ep p):∃V E e d,v=.own i V e p∧κ i=.tree V E d∧(p=[] ∨ e=E)∧ver=(nfv m i V E).1∧ep=(nfv m i V E).2:=by
 cases v with
 | own j V e q =>
  simp only [nrm] at h
  split at h
  ·rename_i V' E' d hk
   cases hb:Nat.beq V V' && (emp q || Nat.beq e E') with
   | false=>rw [hb] at h; cases h
   | true =>
    rw [hb] at h
    obtain ⟨rfl,hc⟩:=vis_cur hb
    simp only [cond_true,AV.own.injEq] at h
    obtain ⟨rfl,h1,h2,rfl⟩:=h
    exact ⟨V,E',e,d,rfl,hk,hc,h1.symm,h2.symm⟩
  ·cases h
 | loc j V e q a b c =>
  simp only [nrm] at h
  split at h
  ·rename_i V' E' d hk
   cases hb:Nat.beq V V' && (emp q || Nat.beq e E') <;> rw [hb] at h <;> cases h
  ·cases h
 | ownf j V =>
  simp only [nrm] at h
  split at h
  ·rename_i V' E' d hk
   cases hb:Nat.beq V V' <;> rw [hb] at h <;> cases h
  ·cases h
 | _=>simp [nrm] at h
theorem nrm_ownf {v:AV} {i ver:Nat} (h:nrm m κ v=.ownf i ver):∃V E d,v=.ownf i V∧κ i=.tree V E d∧ver=(nfv m i V E).1:=by
 cases v with
 | ownf j V =>
  simp only [nrm] at h
  split at h
  ·rename_i V' E' d hk
   cases hb:Nat.beq V V' with
   | false=>rw [hb] at h; cases h
   | true =>
    rw [hb] at h
    have:=Nat.eq_of_beq_eq_true hb
    subst this
    simp only [cond_true,AV.ownf.injEq] at h
    obtain ⟨rfl,h1⟩:=h
    exact ⟨V,E',d,rfl,hk,h1.symm⟩
  ·cases h
 | own j V e q =>
  simp only [nrm] at h
  split at h
  ·rename_i V' E' d hk
   cases hb:Nat.beq V V' && (emp q || Nat.beq e E') <;> rw [hb] at h <;> cases h
  ·cases h
 | loc j V e q a b c =>
  simp only [nrm] at h
  split at h
  ·rename_i V' E' d hk
   cases hb:Nat.beq V V' && (emp q || Nat.beq e E') <;> rw [hb] at h <;> cases h
  ·cases h
 | _=>simp [nrm] at h
theorem nrm_loc {v:AV} {i ver ep a b c:Nat} {p:List PS} (h:nrm m κ v=.loc i ver ep p a b c):∃V E e d,v=.loc i V e p a b c∧κ i=.tree V E d∧(p=[] ∨ e=E)∧ver=(nfv m i V E).1∧ep=(nfv m i V E).2:=by
 cases v with
 | loc j V e q a b c =>
  simp only [nrm] at h
  split at h
  ·rename_i V' E' d hk
   cases hb:Nat.beq V V' && (emp q || Nat.beq e E') with
   | false=>rw [hb] at h; cases h
   | true =>
    rw [hb] at h
    obtain ⟨rfl,hc⟩:=vis_cur hb
    simp only [cond_true,AV.loc.injEq] at h
    obtain ⟨rfl,h1,h2,rfl,rfl,rfl,rfl⟩:=h
    exact ⟨V,E',e,d,rfl,hk,hc,h1.symm,h2.symm⟩
  ·cases h
 | own j V e q =>
  simp only [nrm] at h
  split at h
  ·rename_i V' E' d hk
   cases hb:Nat.beq V V' && (emp q || Nat.beq e E') <;> rw [hb] at h <;> cases h
  ·cases h
 | ownf j V =>
  simp only [nrm] at h
  split at h
  ·rename_i V' E' d hk
   cases hb:Nat.beq V V' <;> rw [hb] at h <;> cases h
  ·cases h
 | _=>simp [nrm] at h
theorem isPt_no {b:Box} (h:b.isPt=true):b.isNo=false:=by cases b <;> simp [Box.isPt] at h <;> rfl
theorem isV_no {b:Box} {v e:Nat} (h:b.isV v e=true):b.isNo=false:=by cases b <;> simp [Box.isV] at h <;> rfl
theorem subWs_length:∀{l' l:List AV},subWs m κ κ' l' l→l'.length=l.length
 | [],[],_=>rfl
 | [],_::_,h=>by simp [subWs] at h
 | _::_,[],h=>by simp [subWs] at h
 | _::_,_::_,h=>by simp only [subWs] at h; simp [subWs_length h.2]
theorem subW_rel {κc:Nat→Box} {F:List Nat} {G1:Gh} (hle:Gh.Le G G1) (hβ:G1.β=G.β) (hH:G1.H=G.H) (hag1:∀i,i∈F→κc i=κ i) (hfz:Fit G1 w (updl κc (frz κ F))):∀(N:Nat),
  (∀(u v:AV) (x:Value),SizeOf.sizeOf u<N→subW m κ κ' u v→AV.sc κ' u=true→(∀i,i∈fidw κ u v→i∈F)→VRel G v x→VRel (reGh m κ κ' G1) u x) ∧
  (∀(us vs:List AV) (xs:List Value),SizeOf.sizeOf us<N→subWs m κ κ' us vs→AV.scs κ' us=true→(∀i,i∈fidws κ us vs→i∈F)→CRel G vs xs→CRel (reGh m κ κ' G1) us xs):=by
 intro N
 induction N with
 | zero=>exact ⟨fun _ _ _ h=>by omega,fun _ _ _ h=>by omega⟩
 | succ N ih =>
  have hbet:∀{i b:Nat},G.β i=some b→(κ' i).isNo=false→(reGh m κ κ' G1).β i=some b:=fun {i b} h hn=>by simp only [reGh,reβ,hn,hβ]; exact h
  refine ⟨fun u v x hsz hs hc hF hv=>?_,fun us vs xs hsz hs hc hF hr=>?_⟩
  ·cases u with
   | any=>exact .any _
   | dv d' =>
    simp only [subW,subD] at hs
    split at hs
    ·rename_i d ids hd
     simp only [fidw,idsD,hd] at hF
     exact .dv (hs _ x (toD_sound (κ:=κ) (κ':=κc) (w:=w) (G':=G1) hd hF hag1 hle hfz hv))
    ·exact hs.elim
   | agg l' =>
    cases v with
    | agg l =>
     simp only [subW] at hs
     simp only [AV.sc] at hc
     simp only [fidw] at hF
     cases hv with | agg _ ys hl hr =>
     have:=ih.2 l' l ys (by simp at hsz; omega) hs hc hF ⟨hl,hr⟩
     exact .agg l' ys this.1 this.2
    | _=>simp [subW] at hs
   | tup l' =>
    cases v with
    | tup l =>
     simp only [subW] at hs
     simp only [AV.sc] at hc
     simp only [fidw] at hF
     cases hv with | tup _ ys hl hr =>
     have:=ih.2 l' l ys (by simp at hsz; omega) hs hc hF ⟨hl,hr⟩
     exact .tup l' ys this.1 this.2
    | _=>simp [subW] at hs
   | fn f' l' =>
    cases v with
    | fn f l =>
     simp only [subW] at hs
     simp only [AV.sc] at hc
     simp only [fidw] at hF
     obtain ⟨rfl,hs⟩:=hs
     cases hv with | fn _ _ ys hl hr =>
     have:=ih.2 l' l ys (by simp at hsz; omega) hs hc hF ⟨hl,hr⟩
     exact .fn f l' ys this.1 this.2
    | _=>simp [subW] at hs
   | bfn f' l' =>
    cases v with
    | bfn f l =>
     simp only [subW] at hs
     simp only [AV.sc] at hc
     simp only [fidw] at hF
     obtain ⟨rfl,hs⟩:=hs
     cases hv with | bfn _ _ ys hl hr =>
     have:=ih.2 l' l ys (by simp at hsz; omega) hs hc hF ⟨hl,hr⟩
     exact .bfn f l' ys this.1 this.2
    | _=>simp [subW] at hs
   | ptr i off =>
    simp only [subW] at hs
    simp only [AV.sc] at hc
    subst hs
    cases hv with | ptr _ _ b hb=>exact .ptr i off b (hbet hb (isPt_no hc))
   | yld i =>
    simp only [subW] at hs
    simp only [AV.sc] at hc
    subst hs
    cases hv with | yld _ l hb=>exact .yld i l (hbet hb (isPt_no hc))
   | sle i k =>
    simp only [subW] at hs
    simp only [AV.sc] at hc
    subst hs
    cases hv with | sle _ _ b hb=>exact .sle i k b (hbet hb (isPt_no hc))
   | own i ver ep p =>
    simp only [subW] at hs
    simp only [AV.sc] at hc
    have hno:=isV_no hc
    unfold subOwn at hs
    split at hs
    ·obtain ⟨rfl,rfl,rfl,hb,sz,hb'⟩:=hs
     cases hv with | dv hv=>cases hv with | nils =>
     refine .own i 0 0 [] _ ?_ rfl
     simp only [hdr,reGh,reH,hno,hb,bornH]
    ·obtain ⟨V,E,e,d,hdv,hk,hcur,rfl,rfl⟩:=nrm_own hs
     have hv:=dn_ok hv
     rw [hdv] at hv
     cases hv with | own _ _ _ _ _ hh hcc =>
     refine .own i _ _ p x ?_ hcc
     rw [hdr_cur hcur] at hh
     simp only [reGh]
     rw [hdr_re hk hno,hH]; exact hh
   | loc i ver ep p a b c =>
    simp only [subW] at hs
    simp only [AV.sc] at hc
    have hno:=isV_no hc
    obtain ⟨V,E,e,d,rfl,hk,hcur,rfl,rfl⟩:=nrm_loc hs
    cases hv with
    | loc _ _ _ _ _ _ _ A q q' hh =>
     refine .loc i _ _ p a b c A q q' ?_
     rw [hdr_cur hcur] at hh
     simp only [reGh]
     rw [hdr_re hk hno,hH]; exact hh
    | locp _ _ _ _ _ _ _ A hh =>
     refine .locp i _ _ p a b c A ?_
     rw [hdr_cur hcur] at hh
     simp only [reGh]
     rw [hdr_re hk hno,hH]; exact hh
   | ownf i ver =>
    simp only [subW] at hs
    simp only [AV.sc] at hc
    have hno:=isV_no hc
    obtain ⟨V,E,d,rfl,hk,rfl⟩:=nrm_ownf hs
    cases hv with | ownf _ _ A q hh =>
    refine .ownf i _ A q ?_
    have:=hdr_re (m:=m) (H:=G1.H) hk hno []
    simp only [hdr] at this
    simp only [reGh]
    rw [this,hH]; exact hh
   | opt g u=>simp [AV.sc] at hc
  ·cases us with
   | nil =>
    cases vs with
    | nil=>exact ⟨hr.1,by simp⟩
    | cons=>simp [subWs] at hs
   | cons u us =>
    cases vs with
    | nil=>simp [subWs] at hs
    | cons v vs =>
     simp only [subWs] at hs
     simp only [AV.scs,Bool.and_eq_true] at hc
     simp only [fidws] at hF
     match xs,hr with
     | [],hr=>have:=hr.1; simp at this
     | x::xs,hr =>
      have h1:=ih.1 u v x (by simp at hsz; omega) hs.1 hc.1 (fun i hi=>hF i (by simp [hi])) (hr.2 0 v x rfl rfl)
      have h2:=ih.2 us vs xs (by simp at hsz; omega) hs.2 hc.2 (fun i hi=>hF i (by simp [hi])) ⟨by simpa using hr.1,fun q e y he hy=>hr.2 (q+1) e y (by simpa using he) (by simpa using hy)⟩
      refine ⟨by simp [h2.1],fun j d y hd hy=>?_⟩
      cases j with
      | zero=>simp at hd hy; subst hd; subst hy; exact h1
      | succ j=>exact h2.2 j d y (by simpa using hd) (by simpa using hy)
theorem frOk_mem:∀{F:List Nat},frOk κ' F=true→∀i,i∈F→∀v e d,κ' i ≠ .tree v e d
 | [],_,i,hi,_,_,_=>by simp at hi
 | j::F,h,i,hi,v,e,d=>by
  simp only [frOk,Bool.and_eq_true] at h
  rcases List.mem_cons.1 hi with rfl | hi
  ·intro hk; rw [hk] at h; cases h.1
  ·exact frOk_mem h.2 i hi v e d
def SubAt (m:Nat) (κ κ':Nat→Box) (F:List Nat) (i:Nat):Prop:=subX m κ κ' i (κ i) (κ' i)∧(κ' i).wfc κ'=true∧∀j,j∈fidsX κ i (κ i) (κ' i)→j∈F
theorem reFit {κc:Nat→Box} {F:List Nat} {G1:Gh} (hf:Fit G w κc) (hle:Gh.Le G G1) (hβ:G1.β=G.β) (hH:G1.H=G.H) (hX:G1.X=G.X) (hag1:∀i,i∈F→κc i=κ i) (hag2:∀i,(κ' i).isNo=false→κc i=κ i) (hfz:Fit G1 w (updl κc (frz κ F))) (hfr:frOk κ' F=true) (hs:∀i,SubAt m κ κ' F i) :
  Fit (reGh m κ κ' G1) w κ'∧∀i b,Own (reGh m κ κ' G1) i (κ' i) b→Own G1 i (updl κc (frz κ F) i) b:=by
 have hat0:=updl_frz (κ:=κ) (κ':=κc) (ids:=F) hag1
 have hat:∀j,(κ' j).isNo=false→updl κc (frz κ F) j=if j∈F then (κ j).frozenOf else κ j:=fun j hj=>by rw [hat0,hag2 j hj]
 have hback:∀i b,Own (reGh m κ κ' G1) i (κ' i) b→Own G1 i (updl κc (frz κ F) i) b:=by
  intro i b ho
  obtain ⟨hx,hwf,hid⟩:=hs i
  cases hk':κ' i with
  | none=>rw [hk'] at ho; exact ho.elim
  | dead=>rw [hk'] at ho; exact ho.elim
  | fz=>rw [hk'] at ho; exact ho.elim
  | cells l' =>
   rw [hk'] at ho hx
   cases hk:κ i with
   | cells l =>
    have hbx:updl κc (frz κ F) i=.cells l:=by rw [hat i (by rw [hk']; rfl),hk]; simp [Box.frozenOf]
    rw [hbx]
    simp only [Own,reGh,reβ,hk',Box.isNo] at ho ⊢
    exact ho
   | _=>rw [hk] at hx; exact hx.elim
  | tree v e d' =>
   rw [hk'] at ho hx
   cases hk:κ i with
   | tree V E d =>
    rw [hk] at hx
    simp only [subX] at hx
    obtain ⟨hx,rfl⟩:=hx
    have hnf:i ∉ F:=fun hi=>frOk_mem hfr i hi _ _ _ hk'
    have hbx:updl κc (frz κ F) i=.tree V E d:=by rw [hat i (by rw [hk']; rfl),if_neg hnf,hk]
    rw [hbx]
    have e1:v=(nfv m i V E).1:=by rw [hx]
    have e2:e=(nfv m i V E).2:=by rw [hx]
    subst e1; subst e2
    obtain ⟨p,nd,u,h1,h2,h3,h4⟩:=ho
    simp only [reGh] at h3
    rw [hdr_re hk (by rw [hk']; rfl)] at h3
    exact ⟨p,nd,u,h1,h2,h3,h4⟩
   | none =>
    rw [hk] at hx
    simp only [subX] at hx
    obtain ⟨rfl,rfl,sz,rfl⟩:=hx
    obtain ⟨p,nd,u,h1,h2,h3,h4⟩:=ho
    cases p with
    | nil =>
     simp only [hdr,reGh,reH,hk',Box.isNo,hk,bornH,Option.some.injEq] at h3
     subst h3; simp [blk] at h4
    | cons s p=>cases s <;> simp [get,step] at h1
   | _=>rw [hk] at hx; exact hx.elim
  | rcd rc st l' =>
   rw [hk'] at ho hx
   cases hk:κ i with
   | rcd rc0 st0 l =>
    have hbx:updl κc (frz κ F) i=.rcd rc0 st0 l:=by rw [hat i (by rw [hk']; rfl),hk]; simp [Box.frozenOf]
    rw [hbx]
    simp only [Own,reGh,reβ,hk',Box.isNo] at ho ⊢
    exact ho
   | _=>rw [hk] at hx; exact hx.elim
 refine ⟨⟨hfz.sub,fun i=>?_,fun i b ho=>hfz.own i b (hback i b ho),fun i j b ho ho'=>hfz.inj i j b (hback i b ho) (hback j b ho')⟩,hback⟩
 obtain ⟨hx,hwf,hid⟩:=hs i
 have hb1:=hfz.box i
 cases hk':κ' i with
 | none=>exact ⟨by simp [reGh,reβ,hk',Box.isNo],fun v e p=>by simp [reGh,reH,hk',Box.isNo]⟩
 | dead=>trivial
 | cells l' =>
  rw [hk'] at hx hwf hid
  cases hk:κ i with
  | cells l =>
   rw [hk] at hx hid
   simp only [subX] at hx
   simp only [fidsX] at hid
   simp only [Box.wfc,Bool.and_eq_true] at hwf
   have hb:=hf.box i
   rw [hag2 i (by rw [hk']; rfl),hk] at hb
   obtain ⟨b,c,t,hb0,hw,hsz,hcl,hr⟩:=hb
   have hlen:=subWs_length hx
   refine ⟨b,c,t,by simp only [reGh,reβ,hk',Box.isNo,hβ]; exact hb0,hw,by rw [hsz,hlen],allCell_mem hwf.2,fun j d v hd hv=>?_⟩
   have:=(subW_rel (m:=m) (κ:=κ) (κ':=κ') (w:=w) hle hβ hH hag1 hfz (SizeOf.sizeOf l'+1)).2 l' l c.toList (by omega) hx hwf.1 hid ⟨by simp [hsz],fun j d v hd hv=>hr j d v hd (by simpa using hv)⟩
   exact this.2 j d v hd (by simpa using hv)
  | _=>rw [hk] at hx; exact hx.elim
 | tree v e d' =>
  rw [hk'] at hx
  cases hk:κ i with
  | tree V E d =>
   rw [hk] at hx
   simp only [subX] at hx
   obtain ⟨hx,rfl⟩:=hx
   have hnf:i ∉ F:=fun hi=>frOk_mem hfr i hi _ _ _ hk'
   rw [hat i (by rw [hk']; rfl),if_neg hnf,hk] at hb1
   have e1:v=(nfv m i V E).1:=by rw [hx]
   have e2:e=(nfv m i V E).2:=by rw [hx]
   subst e1; subst e2
   have hno:(κ' i).isNo=false:=by rw [hk']; rfl
   have hhd:hdr (reGh m κ κ' G1).H i (nfv m i V E).1 (nfv m i V E).2=hdr G1.H i V E:=funext fun p=>by simp only [reGh]; exact hdr_re hk hno p
   refine ⟨?_,?_,fun v hv e p=>?_,fun e he p=>?_⟩
   ·rw [hhd]; exact hb1.1
   ·rw [hhd]; exact hb1.2.1
   ·simp only [reGh,reH,hno,hk]; exact reH1_hi hv e p
   ·simp only [reGh,reH,hno,hk]; exact reH1_he he p
  | none =>
   rw [hk] at hx
   simp only [subX] at hx
   obtain ⟨rfl,rfl,sz,rfl⟩:=hx
   have hno:(κ' i).isNo=false:=by rw [hk']; rfl
   have h0:hdr (reGh m κ κ' G1).H i 0 0 []=some (.slice none 0 0):=by simp only [hdr,reGh,reH,hno,hk,bornH]
   refine ⟨⟨rfl,fun p nd hp hn=>?_⟩,?_,fun v hv e p=>?_,fun e he p=>?_⟩
   ·cases p with
    | nil =>
     simp only [get,Option.some.injEq] at hp
     subst hp
     exact ⟨_,h0,rfl,.inl ⟨rfl,rfl⟩⟩
    | cons s p=>cases s <;> simp [get,step] at hp
   ·intro p q nd md u v b h1 h2 h3 h4 h5 h6 h7 h8
    cases p with
    | nil=>rw [h0] at h3; injection h3 with h3; subst h3; simp [blk] at h4
    | cons s p=>cases s <;> simp [get,step] at h1
   ·simp only [reGh,reH,hno,hk]
    cases v with
    | zero=>omega
    | succ v=>rfl
   ·simp only [reGh,reH,hno,hk]
    cases e with
    | zero=>omega
    | succ e=>rfl
  | _=>rw [hk] at hx; exact hx.elim
 | fz v d' =>
  rw [hk'] at hx hid
  have hno:(κ' i).isNo=false:=by rw [hk']; rfl
  cases hk:κ i with
  | tree V E d =>
   rw [hk] at hx hid
   simp only [subX] at hx
   obtain ⟨rfl,hx⟩:=hx
   have hi:i∈F:=hid i (by simp [fidsX])
   rw [hat i hno,if_pos hi,hk] at hb1
   obtain ⟨u,h1,h2,h3⟩:=hb1
   refine ⟨u,?_,h2,hx _ _ h3⟩
   simp only [reGh,reH,hno,hk]
   rw [nfv_fst m i V 0 E,(reH1_cur m (G1.H i) i V E (.el 0 0) []).1]
   exact h1
  | fz V d =>
   rw [hk] at hx
   simp only [subX] at hx
   obtain ⟨rfl,hx⟩:=hx
   have hbx:updl κc (frz κ F) i=.fz V d:=by rw [hat i hno,hk]; simp [Box.frozenOf]
   rw [hbx] at hb1
   obtain ⟨u,h1,h2,h3⟩:=hb1
   refine ⟨u,?_,h2,hx _ _ h3⟩
   simp only [reGh,reH,hno,hk]
   rw [(reH1_cur m (G1.H i) i V 0 (.el 0 0) []).1]
   exact h1
  | _=>rw [hk] at hx; exact hx.elim
 | rcd rc st l' =>
  rw [hk'] at hx hwf hid
  cases hk:κ i with
  | rcd rc0 st0 l =>
   rw [hk] at hx hid
   simp only [subX] at hx
   simp only [fidsX] at hid
   simp only [Box.wfc] at hwf
   obtain ⟨rfl,rfl,hx⟩:=hx
   have hb:=hf.box i
   rw [hag2 i (by rw [hk']; rfl),hk] at hb
   obtain ⟨b,fn,tmps,D,hb0,hw,hr⟩:=hb
   exact ⟨b,fn,tmps,D,by simp only [reGh,reβ,hk',Box.isNo,hβ]; exact hb0,hw,(subW_rel (m:=m) (κ:=κ) (κ':=κ') (w:=w) hle hβ hH hag1 hfz (SizeOf.sizeOf l'+1)).2 l' l tmps.toList (by omega) hx hwf hid hr⟩
  | _=>rw [hk] at hx; exact hx.elim
end
end Go.TM
namespace Go.TM
open Go.RowKit
variable [Glob]
theorem lookB_mem:∀{K:Boxes} {i:Nat},lookB K i=.none ∨ (i,lookB K i)∈K
 | [],i=>.inl rfl
 | (j,b)::r,i=>by
  simp only [lookB]
  by_cases e:j=i
  ·subst e; right; simp
  ·rw [beq_false (fun h=>e h.symm)]
   rcases lookB_mem (K:=r) (i:=i) with h | h
   ·exact .inl h
   ·exact .inr (List.mem_cons_of_mem _ h)
theorem look_mem:∀{env:Env} {t:Nat},look env t=.any ∨ (t,look env t)∈env
 | [],t=>.inl rfl
 | (j,b)::r,t=>by
  simp only [look]
  by_cases e:j=t
  ·subst e; right; simp
  ·rw [beq_false (fun h=>e h.symm)]
   rcases look_mem (env:=r) (t:=t) with h | h
   ·exact .inl h
   ·exact .inr (List.mem_cons_of_mem _ h)
section
variable {m:Nat} {ρ:Nat→AV} {κ κ':Nat→Box}
theorem subE_mem:∀{l:Env},subE m ρ κ κ' l→∀t v,(t,v)∈l→subW m κ κ' v (ρ t)∧∀i,i∈fidw κ v (ρ t)→i∈fidsE ρ κ l
 | [],_,t,v,h=>by simp at h
 | (t0,v0)::r,hs,t,v,h=>by
  simp only [subE] at hs
  simp only [fidsE]
  rcases List.mem_cons.1 h with h | h
  ·injection h with e1 e2; subst e1; subst e2
   exact ⟨hs.1,fun i hi=>List.mem_append.2 (.inl hi)⟩
  ·exact ⟨(subE_mem hs.2 t v h).1,fun i hi=>List.mem_append.2 (.inr ((subE_mem hs.2 t v h).2 i hi))⟩
theorem subB_mem:∀{l:Boxes},subB m κ κ' l→∀i b,(i,b)∈l→subX m κ κ' i (κ i) b∧∀j,j∈fidsX κ i (κ i) b→j∈fidsB κ l
 | [],_,t,v,h=>by simp at h
 | (t0,v0)::r,hs,t,v,h=>by
  simp only [subB] at hs
  simp only [fidsB]
  rcases List.mem_cons.1 h with h | h
  ·injection h with e1 e2; subst e1; subst e2
   exact ⟨hs.1,fun i hi=>List.mem_append.2 (.inl hi)⟩
  ·exact ⟨(subB_mem hs.2 t v h).1,fun i hi=>List.mem_append.2 (.inr ((subB_mem hs.2 t v h).2 i hi))⟩
theorem wfB_mem {nx:Nat}:∀{l:Boxes},wfB nx κ l=true→∀i b,(i,b)∈l→i<nx∧b.wfc κ=true
 | [],_,t,v,h=>by simp at h
 | (t0,v0)::r,hs,t,v,h=>by
  simp only [wfB,Bool.and_eq_true,Nat.blt_eq] at hs
  rcases List.mem_cons.1 h with h | h
  ·injection h with e1 e2; subst e1; subst e2
   exact hs.1
  ·exact wfB_mem hs.2 t v h
theorem wfE_mem:∀{l:Env},wfE κ l=true→∀t v,(t,v)∈l→v.sc κ=true
 | [],_,t,v,h=>by simp at h
 | (t0,v0)::r,hs,t,v,h=>by
  simp only [wfE,Bool.and_eq_true] at hs
  rcases List.mem_cons.1 h with h | h
  ·injection h with e1 e2; subst e1; subst e2
   exact hs.1
  ·exact wfE_mem hs.2 t v h
theorem wfB_none {nx:Nat} {K:Boxes} (h:wfB nx κ K=true) {i:Nat} (hi:nx≤i):lookB K i=.none:=by
 rcases lookB_mem (K:=K) (i:=i) with h' | h'
 ·exact h'
 ·have:=(wfB_mem h i _ h').1; omega
theorem fullB_spec:∀{m:Nat},fullB κ κ' m=true→∀i,i<m→(κ' i).isNo=true→κ i=.none
 | 0,_,i,hi,_=>by omega
 | m+1,h,i,hi,hn=>by
  simp only [fullB,Bool.and_eq_true] at h
  rcases Nat.lt_or_ge i m with hlt | hge
  ·exact fullB_spec h.2 i hlt hn
  ·have:i=m:=by omega
   subst this
   have h1:=h.1
   rw [isNo_none hn] at h1
   cases hk:κ i with
   | none=>rfl
   | _=>rw [hk] at h1; cases h1
end
section
variable {g:Org} {n m:Nat} {ρ:Nat→AV} {κ:Nat→Box} {a:Act} {w:World} {G:Gh}
theorem StM.sub (hst:StM g n ρ κ a w G) (hgm:g.m≤m) {K':Boxes} {nx':Nat} {F:List Nat} (hwf:wfB nx' (lookB K') K'=true) (hF:∀i,i∈fidsB κ K'→i∈F) (hfr:frOk (lookB K') F=true) (hfull:fullB κ (lookB K') m=true)
  (hB:subB m κ (lookB K') K'):∃G',(∀u v x,subW m κ (lookB K') u v→AV.sc (lookB K') u=true→(∀i,i∈fidw κ u v→i∈F)→VRel G v x→VRel G' u x) ∧
   (∀us vs xs,subWs m κ (lookB K') us vs→AV.scs (lookB K') us=true→(∀i,i∈fidws κ us vs→i∈F)→CRel G vs xs→CRel G' us xs) ∧
   (∀ρ',(∀t,VRel G' (ρ' t) (a.tmps.getD t undef))→StM g n ρ' (lookB K') a w G'):=by
 obtain ⟨G1,f1,f2,f3,f4,st1⟩:=hst.freezes (κ:=κ) F (fun _ _=>rfl)
 have hs:∀i,SubAt m κ (lookB K') F i:=by
  intro i
  rcases lookB_mem (K:=K') (i:=i) with h | h
  ·unfold SubAt; rw [h]; exact ⟨tv,rfl,by simp [fidsX]⟩
  ·exact ⟨(subB_mem hB i _ h).1,(wfB_mem hwf i _ h).2,fun j hj=>hF j ((subB_mem hB i _ h).2 j hj)⟩
 obtain ⟨hfit,hback⟩:=reFit (κ:=κ) (κc:=κ) hst.fit f1 f2 f3 f4 (fun _ _=>rfl) (fun _ _=>rfl) st1.fit hfr hs
 have hno:∀i,i<g.m→(lookB K' i).isNo=true→G.β i=none∧∀v e p,G.H i v e p=none:=by
  intro i hi hn
  have hk:=fullB_spec hfull i (by omega) hn
  have hb:=hst.fit.box i
  rw [hk] at hb
  exact hb
 refine ⟨reGh m κ (lookB K') G1,fun u v x hsub hsc hid hv=>(subW_rel (m:=m) (κ:=κ) (κ':=lookB K') (w:=w) f1 f2 f3 (fun _ _=>rfl) st1.fit (SizeOf.sizeOf u+1)).1 u v x (by omega) hsub hsc hid hv,fun us vs xs hsub hsc hid hv=>(subW_rel (m:=m) (κ:=κ) (κ':=lookB K') (w:=w) f1 f2 f3 (fun _ _=>rfl) st1.fit (SizeOf.sizeOf us+1)).2 us vs xs (by omega) hsub hsc hid hv,fun ρ' hρ=>?_⟩
 refine { fit:=hfit,env:=hρ,size:=hst.size,bel:=st1.bel,os:=st1.os,tape:=st1.tape,output:=st1.output,grow:=st1.grow,mem:=st1.mem,mlow:=st1.mlow,ownhi:=fun i b ho=>st1.ownhi i b (hback i b ho),bet:=fun i hi=>?_,hed:=fun i hi p x hx=>?_,glob:=hst.glob,dfr:=?_ }
 ·rw [←hst.bet i hi]
  simp only [reGh,reβ]
  cases hn:(lookB K' i).isNo with
  | true=>exact (hno i hi hn).1.symm
  | false=>rw [f2]
 ·have hx0:=hst.hed i hi p x hx
  have him:i<m:=by omega
  simp only [reGh,reH]
  cases hn:(lookB K' i).isNo with
  | true=>rw [(hno i hi hn).2] at hx0; cases hx0
  | false =>
   simp only
   split
   ·rw [reH1_old him,f3]; exact hx0
   ·rw [reH1_old him,f3]; exact hx0
   ·rename_i hk
    have hb:=hst.fit.box i
    rw [hk] at hb
    rw [hb.2] at hx0; cases hx0
   ·rw [if_pos (by simp [him]),f3]; exact hx0
 ·obtain ⟨D,h1,h2,h3⟩:=st1.dfr
  exact ⟨D,h1,h2,fun r hr=>⟨(h3 r hr).1,fun i ho=>(h3 r hr).2.1 i (hback i r ho),(h3 r hr).2.2.1,(h3 r hr).2.2.2⟩⟩
theorem StL.sub {nx:Nat} {env:Env} {K:Boxes} {s:AState} (hgm:g.m≤m) (hgs:g.m≤s.nx) (hw:s.wf=true) (hsub:AState.sub m env K s) (h:StL g n nx env K a w):StL g n s.nx s.env s.K a w:=by
 obtain ⟨⟨G,hst⟩,_⟩:=h
 obtain ⟨h1,h2,h3,h4⟩:=hsub
 simp only [AState.wf,Bool.and_eq_true] at hw
 obtain ⟨G',hv,_,hst'⟩:=hst.sub hgm (F:=fidsE (look env) (lookB K) s.env++fidsB (lookB K) s.K) hw.1 (fun i hi=>List.mem_append.2 (.inr hi)) h3 h4 h2
 refine ⟨⟨G',hst' _ fun t=>?_⟩,hgs,fun i hi=>wfB_none hw.1 hi⟩
 rcases look_mem (env:=s.env) (t:=t) with h | h
 ·rw [h]; exact .any _
 ·have:=subE_mem h1 t _ h
  exact hv _ _ _ this.1 (wfE_mem hw.2 t _ h) (fun i hi=>List.mem_append.2 (.inl (this.2 i hi))) (hst.env t)
end
def slots (ρ:Nat→AV):Nat→Nat→List AV
 | _,0=>[]
 | s,k+1=>ρ s::slots ρ (s+1) k
def neK (κ:Nat→Box):Nat→Bool
 | 0=>true
 | m+1=>(match κ m with
  | .none=>false
  | .dead=>false
  | _=>true) && neK κ m
def rangeEnd (nx:Nat) (K:Boxes) (Q:AX→Boxes→Prop):Prop:=match lookB K nx with
 | .rcd _ .ready _=>Q .normal ((nx,.dead)::K)
 | .rcd _ (.done e) _=>Q e ((nx,.dead)::K)
 | _=>False
def arangeF (P:Program) (nx:Nat) (env:Env) (K1:Boxes) (f:Nat) (caps:List AV) (Q:AX→Nat→Env→Boxes→Prop):Prop :=
 ∃(σ:List Nat) (args0:List AV) (K0:Boxes) (ex:Nat) (R:List AV→Boxes→Prop),CSpecR P f args0 σ.length K0 ex R∧(callChk (lookB K1) σ (nx+1) (.yld nx::caps) args0 K0 && neK (lookB K0) σ.length)=true ∧
  subWs 0 (lookB K1) (lookB (renK (sg σ (nx+1)) zsh K0)) (rens (sg σ (nx+1)) zsh args0) (.yld nx::caps)∧subB 0 (lookB K1) (lookB (renK (sg σ (nx+1)) zsh K0)) (renK (sg σ (nx+1)) zsh K0) ∧
  ∀rs K2,R rs K2→outKChk σ ex K0 K2 rs=true ∧
   forceK (renK (sg σ (nx+1)) (shs (lookB K1) σ) K2++frz (lookB K1) (fidws (lookB K1) (rens (sg σ (nx+1)) zsh args0) (.yld nx::caps)++fidsB (lookB K1) (renK (sg σ (nx+1)) zsh K0))) fun bx =>
    rangeEnd nx (addB bx K1) fun e K=>Q e (nx+1+ex) env K
def arange (P:Program) (n nx:Nat) (env:Env) (K:Boxes) (x:Operand) (ps:Array Tmp) (assign body:Code) (Q:AX→Nat→Env→Boxes→Prop):Prop :=
 ∃rc:RC,rc=⟨ps,assign,body⟩∧match ev (look env) (lookB K) x with
 | .fn f caps=>arangeF P nx env ((nx,.rcd rc .ready (slots (look env) 0 n))::K) f caps Q
 | .dv (.fn f caps)=>arangeF P nx env ((nx,.rcd rc .ready (slots (look env) 0 n))::K) f (dvs caps) Q
 | _=>False
def seqK (kb:Nat→Env→Boxes→Prop) (Q:AX→Nat→Env→Boxes→Prop):AX→Nat→Env→Boxes→Prop
 | .normal=>kb
 | .ret=>Q .ret
 | .exit i=>Q (.exit i)
def blockK (id:Nat) (Q:AX→Nat→Env→Boxes→Prop):AX→Nat→Env→Boxes→Prop
 | .normal=>Q .normal
 | .ret=>Q .ret
 | .exit i=>fun nx env K=>bif Nat.beq i id then Q .normal nx env K else Q (.exit i) nx env K
def onSt:AState→(Nat→Env→Boxes→Prop)→Prop
 | ⟨nx,env,K⟩,k=>k nx env K
def againK (m:Nat) {ι:Type} (inv:ι→AState) (p:ι→Prop) (μ:ι→Nat) (x:ι) (_nx:Nat) (env:Env) (K:Boxes):Prop:=∃y,AState.sub m env K (inv y)∧p y∧μ y<μ x
def acode (P:Program) (T:List TI) (r:Bool) (n m:Nat):Code→(AX→Nat→Env→Boxes→Prop)→Nat→Env→Boxes→Prop
 | .skip,Q,nx,env,K=>Q .normal nx env K
 | .region _ ops false,Q,nx,env,K=>arun P T ops.toList n ops.toList nx env K (Q .normal)
 | .region _ ops true,Q,nx,env,K=>adraw P T ops.toList n ops.toList nx env K [] fun nx env K rs=>indepB ops.toList rs=true∧Q .normal nx env K
 | .seq a b,Q,nx,env,K=>acode P T r n m a (seqK (acode P T r n m b Q) Q) nx env K
 | .cond c a b,Q,nx,env,K=>match ev (look env) (lookB K) c with
  | .dv (.bool t)=>(t=true→acode P T r n m a Q nx env K)∧(t=false→acode P T r n m b Q nx env K)
  | .dv .anyb=>acode P T r n m a Q nx env K∧acode P T r n m b Q nx env K
  | _=>False
 | .block id c,Q,nx,env,K=>acode P T r n m c (blockK id Q) nx env K
 | .exit id,Q,nx,env,K=>Q (.exit id) nx env K
 | .ret,Q,nx,env,K=>Q .ret nx env K
 | .scope c,Q,nx,env,K=>acode P T r n m c Q nx env K
 | .loop c,Q,nx,env,K=>∃(ι:Type) (inv:ι→AState) (p:ι→Prop) (μ:ι→Nat) (x0:ι),(∀x,(Nat.ble m (inv x).nx && (inv x).wf)=true)∧AState.sub m env K (inv x0)∧p x0 ∧
   ∀x,p x→onSt (inv x) (acode P T r n m c (seqK (againK m inv p μ x) Q))
 | .label _,Q,nx,env,K=>Q .normal nx env K
 | .rangeFunc x ps assign body,Q,nx,env,K=>bif r then arange P n nx env K x ps assign body Q else False
 | _,_,_,_,_=>False
section
variable {P:Program} {C:Org→Prop} {F:Fence} {n:Nat} {b:Frame} {a:Act} {k:List Item} {cs:List Frame} {w:World} {Q:Exit→Act→World→Prop}
theorem stepR_scope {c:Code}:Go.step P (lone (b.atR a (.code (.scope c)::k)) cs w)=.next (lone (b.atR a (.code c::.inScope c::k)) cs w) :=
 step_lone_go (by simp [stepG,stepG.exec,Frame.atR])
theorem stepR_inScope {c:Code}:Go.step P (lone (b.atR a (.inScope c::k)) cs w)=.next (lone (b.atR a k) cs w) :=
 step_lone_go (by simp [stepG,stepG.exec,Frame.atR])
def noG (Q:Exit→Act→World→Prop):Exit→Act→World→Prop
 | .goto _,_,_=>False
 | e,a,w=>Q e a w
theorem wpIn_scope {c:Code} (h:c.wpIn F n P (noG Q) a w):(Code.scope c).wpIn F n P Q a w:=by
 intro b k cs hro hb hr
 have h0:(lone (b.atR a (.code (.scope c)::k)) cs w).fenced P F:=fenced_calm hb hr rfl
 obtain ⟨e,a₁,w₁,hq,harr⟩:=h b (.inScope c::k) cs hro hb hr
 cases e with
 | normal=>exact ⟨.normal,a₁,w₁,hq,.head h0 stepR_scope (StepsIn.trans harr (.one (fenced_calm hb hr rfl) stepR_inScope))⟩
 | exit id =>
  have hx:exitTo id (.inScope c::k)=exitTo id k:=by simp [exitTo]
  exact ⟨.exit id,a₁,w₁,hq,fun k' hk=>.head h0 stepR_scope (harr.1 k' (by rw [hx]; exact hk)),
   fun hr' hk=>let ⟨k₁,h1,h2⟩:=harr.2 hr' (by rw [hx]; exact hk); ⟨k₁,h1,.head h0 stepR_scope h2⟩⟩
 | goto l=>exact hq.elim
 | ret=>exact ⟨_,a₁,w₁,hq,.of_steps (.one h0 stepR_scope) harr⟩
 | panic ch=>exact ⟨_,a₁,w₁,hq,.of_steps (.one h0 stepR_scope) harr⟩
 | outgrown=>exact ⟨_,a₁,w₁,hq,.of_steps (.one h0 stepR_scope) harr⟩
end
def toExit:AX→Exit
 | .normal=>.normal
 | .ret=>.ret
 | .exit i=>.exit i
theorem cntf_le (E:Nat→Bool):∀m,cntf E m≤m
 | 0=>Nat.le_refl _
 | m+1=>by have:=cntf_le E m; simp only [cntf]; split <;> omega
theorem acc_none {γ:Type _} (f:Nat→γ) (wr:Nat→List (Nat × γ)):∀m,acc f wr (fun _=>false) m=f
 | 0=>rfl
 | m+1=>by simp only [acc,Bool.false_eq_true,if_false]; exact acc_none f wr m
section
variable {P:Program} {C:Org→Prop} {T:List TI} {n:Nat} {g:Org}
def RangeSnd (P:Program):Prop:=∀(g:Org) (n nx:Nat) (env:Env) (K:Boxes) (a:Act) (w:World) (x:Operand) (ps:Array Tmp) (assign body:Code) (Q:AX→Nat→Env→Boxes→Prop) (R:Exit→Act→World→Prop),
 arange P n nx env K x ps assign body Q→StL g n nx env K a w→(∀e nx env K a w,Q e nx env K→StL g n nx env K a w→R (toExit e) a w)→(Code.rangeFunc x ps assign body).wpIn Fence.wide 0 P R a w
theorem acode_sound (hT:TOk P T) (hm:P.follows .mixedOrders=true) (hC:CallsSnd P C) (hRF:RangeSnd P) (hCg:C g) {F:Fence} (hF:Wide F) {r:Bool} (hr:r=true→F=Fence.wide) {m:Nat} (hgm:g.m≤m) (c:Code):∀{Q:AX→Nat→Env→Boxes→Prop} {nx:Nat} {env:Env} {K:Boxes} {a:Act} {w:World} {R:Exit→Act→World→Prop},
  acode P T r n m c Q nx env K→StL g n nx env K a w→(∀e nx env K a w,Q e nx env K→StL g n nx env K a w→R (toExit e) a w)→c.wpIn F 0 P R a w:=by
 induction c with
 | skip=>intro Q nx env K a w R h hs hR; exact wpIn_skip (hR .normal _ _ _ _ _ h hs)
 | region id ops draw =>
  intro Q nx env K a w R h hs hR
  cases draw with
  | false =>
   refine wpIn_region_list ?_
   have:=arun_sound (P:=P) (T:=T) (ops:=ops.toList) (Q:=R) hT hC hCg hF (fun nx env K a w hq hs=>hR .normal nx env K a w hq hs) ops.toList nx env K a w h hs
   simpa using this
  | true =>
   refine wpIn_region_any hm ?_
   obtain ⟨nx',env',K',rs,⟨hind,hq⟩,hlen,hlo,hn,he,hk,hall⟩:=adraw_sound (P:=P) (T:=T) (n:=n) (ρ0:=look env) (κ0:=lookB K) (lo:=nx) hT hC ops.toList [] nx env K [] rfl rfl (Nat.le_refl _) hs.2.2 rfl rfl (by simp) h
   have hfalse:(fun i=>(Array.replicate ops.size false).getD i false)=fun _=>false:=by
    funext i
    simp only [Array.getD_eq_getD_getElem?,Array.getElem?_replicate]
    split <;> rfl
   have hstart:St g n (look env) (lookB K) a { w with drawn:=w.drawn+1 }:=by
    obtain ⟨G,h1⟩:=hs.1
    exact ⟨G,h1.drawn _⟩
   have:=any_order (P:=P) (ops:=ops.toList) (n:=n) (g:=g) (Q:=R) hCg hF hs.2.1 hind hlen hall (fun a w hst=>hR .normal nx' env' K' a w hq ⟨by rw [he,hk]; exact hst,Nat.le_trans hs.2.1 hlo,hn⟩) ops.size (Array.replicate ops.size false) a { w with drawn:=w.drawn+1 } (by simp)
    (by have:=cntf_le (fun i=>(Array.replicate ops.size false).getD i false) ops.toList.length; simpa using this)
    (fun i o _ hi=>by rw [congrFun hfalse i] at hi; cases hi)
    (by rw [hfalse,acc_none,acc_none]; exact hstart)
   simpa using this
 | seq x y ihx ihy =>
  intro Q nx env K a w R h hs hR
  refine wpIn_seq (ihx h hs fun e nx env K a w hq hs=>?_)
  cases e with
  | normal=>exact ihy hq hs hR
  | ret=>exact hR .ret _ _ _ _ _ hq hs
  | exit i=>exact hR (.exit i) _ _ _ _ _ hq hs
 | cond c x y ihx ihy =>
  intro Q nx env K a w R h hs hR
  simp only [acode] at h
  split at h
  ·rename_i t ht
   obtain ⟨G,hst⟩:=hs.1
   have hev:=ev_is (gd:=true) ht
   have hv:=hev (look env) (lookB K) ⟨fun _ _=>rfl,fun _ _=>rfl⟩ g n a w G hst rfl
   generalize hx:a.eval c=v at hv
   cases hv with | dv hv=>cases hv with | bool =>
   exact wpIn_cond_split hx (fun e=>ihx (h.1 e) hs hR) (fun e=>ihy (h.2 e) hs hR)
  ·rename_i ht
   obtain ⟨G,hst⟩:=hs.1
   have hev:=ev_is (gd:=true) ht
   have hv:=hev (look env) (lookB K) ⟨fun _ _=>rfl,fun _ _=>rfl⟩ g n a w G hst rfl
   generalize hx:a.eval c=v at hv
   cases hv with | dv hv=>cases hv with | anyb b =>
   exact wpIn_cond_split hx (fun e=>ihx h.1 hs hR) (fun e=>ihy h.2 hs hR)
  ·exact h.elim
 | block id c ih =>
  intro Q nx env K a w R h hs hR
  refine wpIn_block (ih h hs fun e nx env K a w hq hs=>?_)
  cases e with
  | normal=>exact hR .normal _ _ _ _ _ hq hs
  | ret=>exact hR .ret _ _ _ _ _ hq hs
  | exit i =>
   simp only [blockK] at hq
   simp only [toExit,Exit.inBlock]
   cases hb:Nat.beq i id with
   | true=>rw [hb] at hq; rw [if_pos (Nat.eq_of_beq_eq_true hb)]; exact hR .normal _ _ _ _ _ hq hs
   | false =>
    rw [hb] at hq
    rw [if_neg (fun e=>by rw [e,Nat.beq_refl] at hb; cases hb)]
    exact hR (.exit i) _ _ _ _ _ hq hs
 | exit id=>intro Q nx env K a w R h hs hR; exact wpIn_exit (hR (.exit id) _ _ _ _ _ h hs)
 | ret=>intro Q nx env K a w R h hs hR; exact wpIn_ret (hR .ret _ _ _ _ _ h hs)
 | loop c ih =>
  intro Q nx env K a w R h hs hR
  obtain ⟨ι,inv,p,μ,x0,hwf,hsub,hp0,hround⟩:=h
  have hwf':∀x,(inv x).wf=true:=fun x=>by have:=hwf x; simp only [Bool.and_eq_true] at this; exact this.2
  have hnx':∀x,g.m≤(inv x).nx:=fun x=>by have:=hwf x; simp only [Bool.and_eq_true] at this; exact Nat.le_trans hgm (Nat.le_of_ble_eq_true this.1)
  refine wpIn_loop_ghost (fun m a w=>∃x,p x∧μ x=m∧StL g n (inv x).nx (inv x).env (inv x).K a w) (μ x0) ⟨x0,hp0,rfl,StL.sub hgm (hnx' x0) (hwf' x0) hsub hs⟩ ?_
  rintro m a w ⟨x,hp,rfl,hs⟩
  refine ih (hround x hp) hs fun e nx env K a w hq hs=>?_
  cases e with
  | normal =>
   obtain ⟨y,hy,hpy,hlt⟩:=hq
   exact ⟨μ y,hlt,y,hpy,rfl,StL.sub hgm (hnx' y) (hwf' y) hy hs⟩
  | ret=>exact hR .ret _ _ _ _ _ hq hs
  | exit i=>exact hR (.exit i) _ _ _ _ _ hq hs
 | rangeFunc x ps assign body =>
  intro Q nx env K a w R h hs hR
  simp only [acode] at h
  have hh:=bif_true h; clear h; obtain ⟨hrt,h⟩:=hh
  rw [hr hrt]
  exact hRF g n nx env K a w x ps assign body Q R h hs hR
 | scope c ih =>
  intro Q nx env K a w R h hs hR
  refine wpIn_scope (ih h hs fun e nx env K a w hq hs=>?_)
  cases e with
  | normal=>exact hR .normal _ _ _ _ _ hq hs
  | ret=>exact hR .ret _ _ _ _ _ hq hs
  | exit i=>exact hR (.exit i) _ _ _ _ _ hq hs
 | label l=>intro Q nx env K a w R h hs hR; exact wpIn_label (hR .normal _ _ _ _ _ h hs)
 | goto=>intro Q nx env K a w R h; exact h.elim
 | refuse=>intro Q nx env K a w R h; exact h.elim
end
end Go.TM
namespace Go.TM
open Go.RowKit
variable [Glob]
def entryE:Nat→List DV→Env
 | _,[]=>[]
 | i,d::r=>(i,ofD d)::entryE (i+1) r
def resD (T:List TI) (ρ:Nat→AV) (κ:Nat→Box):ResultVar→(DV→Prop)→Prop
 | .tmp t,k=>match toArg κ (ρ t) with
  | some (d,_)=>k d
  | none=>False
 | .cell t ty,k=>bif (nth T ty).ok then match res κ (ρ t) with
  | .ptr i off=>match κ i with
   | .cells l=>pickCells (nth T ty).agg l off (nth T ty).size fun v=>match toArg κ v with
    | some (d,_)=>k d
    | none=>False
   | _=>False
  | _=>False
  else False
def resOk (T:List TI) (ρ:Nat→AV) (κ:Nat→Box):List ResultVar→List DV→Prop
 | [],[]=>True
 | v::r,d::ds=>resD T ρ κ v (fun d'=>d'.Le d)∧resOk T ρ κ r ds
 | _,_=>False
def entryA:Nat→List AV→Env
 | _,[]=>[]
 | i,v::r=>(i,v)::entryA (i+1) r
def resA (T:List TI) (ρ:Nat→AV) (κ:Nat→Box):List ResultVar→(List AV→Prop)→Prop
 | [],k=>k []
 | .tmp t::r,k=>force (res κ (ρ t)) fun v=>resA T ρ κ r fun l=>k (v::l)
 | .cell t ty::r,k=>bif (nth T ty).ok then match res κ (ρ t) with
  | .ptr i off=>match κ i with
   | .cells l=>pickCells (nth T ty).agg l off (nth T ty).size fun v=>resA T ρ κ r fun l=>k (v::l)
   | _=>False
  | _=>False
  else False
def outChk (m ex:Nat) (κ:Nat→Box) (avs rs:List AV) (K':Boxes):Bool :=
 wfB (m+ex) (lookB K') K' && AV.scs (lookB K') rs && frOk (lookB K') (fidws κ rs avs++fidsB κ K') && fullB κ (lookB K') m
def outOk (T:List TI) (fn:Func) (m ex:Nat) (R:List AV→Boxes→Prop) (env:Env) (K:Boxes):Prop :=
 resA T (look env) (lookB K) fn.results.toList fun avs=>∃rs K',R rs K'∧outChk m ex (lookB K) avs rs K'=true∧subWs m (lookB K) (lookB K') rs avs∧subB m (lookB K) (lookB K') K'
def fpostC (T:List TI) (fn:Func) (m ex:Nat) (R:List AV→Boxes→Prop) (e:AX) (_nx:Nat) (env:Env) (K:Boxes):Prop :=
 match e with
 | .normal=>outOk T fn m ex R env K
 | .ret=>outOk T fn m ex R env K
 | .exit _=>False
def fpost (T:List TI) (fn:Func) (rs:List DV) (e:AX) (_nx:Nat) (env:Env) (K:Boxes):Prop :=
 match e with
 | .normal=>resOk T (look env) (lookB K) fn.results.toList rs
 | .ret=>resOk T (look env) (lookB K) fn.results.toList rs
 | .exit _=>False
section
variable {P:Program} {C:Org→Prop} {T:List TI} {n:Nat} {g:Org}
theorem putObj_size (w:World) (b:Nat) (o:Obj):(w.putObj b o).heap.size=w.heap.size:=by simp [World.putObj]
theorem putObj_other (w:World) {b k:Nat} (o:Obj) (h:k ≠ b):(w.putObj b o).heap[k]?=w.heap[k]?:=by
 simp only [World.putObj]
 rw [Array.getElem?_setIfInBounds_ne (fun e=>h e.symm)]
theorem StM.shut {ρ:Nat→AV} {κ:Nat→Box} {a:Act} {w:World} {G:Gh} (h:StM g n ρ κ a w G) {D:List Nat} {r:Nat} (hD:a.defers=(r::D).map mark) :
  w.heap[r]?=some (.deferred (some []))∧StM g n ρ κ { a with defers:=D.map mark } (w.putObj r (.deferred none)) G:=by
 obtain ⟨D',h1,h2,h3⟩:=h.dfr
 have hDD:D'=r::D:=by
  rw [h1] at hD
  have inj:∀x y:Nat,mark x=mark y→x=y:=fun x y e=>by simp only [mark,Deferred.mk.injEq,Target.collected.injEq] at e; exact e.1
  have:∀(l l':List Nat),l.map mark=l'.map mark→l=l':=by
   intro l
   induction l with
   | nil=>intro l' e; cases l' with
    | nil=>rfl
    | cons=>simp at e
   | cons x l ih=>intro l' e; cases l' with
    | nil=>simp at e
    | cons y l'=>simp only [List.map_cons,List.cons.injEq] at e; rw [inj x y e.1,ih l' e.2]
  exact this _ _ hD
 subst hDD
 obtain ⟨a1,a2,a3,a4⟩:=h3 r (by simp)
 have hne:∀i b,Own G i (κ i) b→b ≠ r:=fun i b ho e=>a2 i (e ▸ ho)
 have hin:G.M.In (w.putObj r (.deferred none)):=fun b o hb=>by
  rw [putObj_other _ _ (fun e=>by rw [e,a3] at hb; cases hb)]; exact h.fit.sub b o hb
 refine ⟨a1,{ h with fit:=⟨hin,fun i=>(h.fit.box i).keep (.refl G) rfl (fun _=>⟨fun _ h=>h,fun _ _ _ _ h=>h⟩) (fun b hb=>putObj_other _ _ (hne i b hb)) hin (h.fit.own i) (by rw [putObj_size]; exact Nat.le_refl _),h.fit.own,h.fit.inj⟩,bel:=fun b hb hO=>by rw [putObj_other _ _ (by omega)]; exact h.bel b hb hO,os:=h.os,tape:=h.tape,output:=h.output,grow:=by rw [putObj_size]; exact h.grow,dfr:=?_ }⟩
 refine ⟨D,rfl,(List.nodup_cons.1 h2).2,fun q hq=>?_⟩
 obtain ⟨b1,b2,b3,b4⟩:=h3 q (by simp [hq])
 have hqr:q ≠ r:=fun e=>(List.nodup_cons.1 h2).1 (by rw [←e]; exact hq)
 exact ⟨by rw [putObj_other _ _ hqr]; exact b1,b2,b3,b4⟩
theorem StM.leave {ρ:Nat→AV} {κ:Nat→Box} {G:Gh} {F:Fence} {fn:Func} {R:Ending→World→Prop} (tmps:Array Value) (hfin:∀w',StM g n ρ κ { tmps:=tmps,defers:=[] } w' G→∃v,(results fn tmps).run P w'=.ok v w'∧R (.returned v) w') :
  ∀(D:List Nat) (w:World),StM g n ρ κ { tmps:=tmps,defers:=D.map mark } w G→LeavesInM F 0 P fn tmps R (D.map mark) .returning w
 | [],w,h=>hfin w h
 | r::D,w,h=>by
  obtain ⟨h1,h2⟩:=h.shut (D:=D) (r:=r) rfl
  exact ⟨by simp,.inl ⟨r,_,rfl,run_takeDeferred h1,StM.leave tmps hfin D _ h2⟩⟩
theorem entry_look:∀(ds:List DV) (s t:Nat),look (entryE s ds) t=if s≤t then (match ds[t - s]? with | some d=>ofD d | none=>.any) else .any
 | [],s,t=>by simp [entryE,look]
 | d::r,s,t=>by
  simp only [entryE,look]
  rw [entry_look r (s+1) t]
  by_cases h1:s=t
  ·subst h1; simp
  ·have hb:Nat.beq s t=false:=by cases hb:Nat.beq s t with | false=>rfl | true=>exact absurd (Nat.eq_of_beq_eq_true hb) h1
   rw [hb]
   by_cases h2:s≤t
   ·have e:t - s=t - (s+1)+1:=by omega
    rw [if_pos h2,if_pos (by omega),e]; simp
   ·rw [if_neg h2,if_neg (by omega)]; simp
theorem load_result (hT:TOk P T) {ρ:Nat→AV} {κ:Nat→Box} {a:Act} {w:World} {G:Gh} (hst:StM g n ρ κ a w G) {rv:ResultVar} {q:DV→Prop} (h:resD T ρ κ rv q) :
  ∃(d:DV) (ids:List Nat),q d∧∃v,(match rv with | .tmp t=>pure (a.tmps.getD t undef) | .cell t ty=>do loadVar ty (←asAddr (a.tmps.getD t undef)):Sem Value).run P w=.ok v w ∧
   ∀(all:List Nat) (G':Gh),(∀i,i∈ids→i∈all)→Gh.Le G G'→Fit G' w (updl κ (frz κ all))→DRel G'.M d v:=by
 cases rv with
 | tmp t =>
  simp only [resD] at h
  split at h
  ·rename_i d ids hd
   refine ⟨d,ids,h,_,rfl,fun all G' hs hle hfz=>toArg_sound (κ:=κ) (κ':=κ) (fun _ _=>rfl) hle hfz hd hs (hst.env t)⟩
  ·exact h.elim
 | cell t ty =>
  simp only [resD] at h
  have hh:=bif_true h; clear h; obtain ⟨hok,h⟩:=hh
  split at h
  ·rename_i i off hr
   split at h
   ·rename_i l hk
    obtain ⟨av,h,hp⟩:=pickCells_sound h
    split at h
    ·rename_i d ids hd
     have hv:=res_ok hst.fit (hst.env t)
     rw [hr] at hv
     have hbox:=hst.fit.box i
     rw [hk] at hbox
     obtain ⟨b,c,tt,hb0,hw,hsz,hcl,hrr⟩:=hbox
     generalize hx:a.tmps.getD t undef=x at hv
     cases hv with | ptr _ _ b' hb' =>
     rw [hb0] at hb'; injection hb' with hb'; subst hb'
     have hA:(⟨b,off,none⟩:Addr)=(⟨b,0,none⟩:Addr).add off:=by rw [add_at]; simp
     obtain ⟨v,h1,h2⟩:=load_known (P:=P) (av:=av) (w:=w) (G:=G) (l:=l) (off:=off) hT hok ⟨b,0,none⟩ (fun j=>c.getD j undef) (fun j hj=>by
       rw [add_at]
       simp [World.cell?,hw,hsz,hj]) (fun j d hd=>by
       have hj:j<l.length:=(List.getElem?_eq_some_iff.1 hd).1
       exact hrr j d _ hd (by simp [hsz,hj])) hp
     rw [←hA] at h1
     refine ⟨d,ids,h,v,?_,fun all G' hs hle hfz=>toArg_sound (κ:=κ) (κ':=κ) (fun _ _=>rfl) hle hfz hd hs h2⟩
     simp only [Instr.loadAt,Instr.sureAddr,Sem.run_bind,Sem.run_pure,Result.andThen_ok] at h1
     simp only [hx,asAddr,Sem.run_bind,Sem.run_pure,Result.andThen_ok]
     exact h1
    ·exact h.elim
   ·exact h.elim
  ·exact h.elim
theorem results_ok (hT:TOk P T) {ρ:Nat→AV} {κ:Nat→Box} {a:Act} {w:World} {G:Gh} (hst:StM g n ρ κ a w G):∀{rvs:List ResultVar} {rs:List DV},resOk T ρ κ rvs rs →
  ∃(ids:List Nat) (us:List Value),((rvs.mapM fun | .tmp t=>pure (a.tmps.getD t undef) | .cell t ty=>do loadVar ty (←asAddr (a.tmps.getD t undef))):Sem (List Value)).run P w=.ok us w ∧
   ∀(all:List Nat) (G':Gh),(∀i,i∈ids→i∈all)→Gh.Le G G'→Fit G' w (updl κ (frz κ all))→DRels G'.M rs us
 | [],[],_=>⟨[],[],rfl,fun _ G' _ _ _=>.nil G'.M⟩
 | [],_::_,h=>h.elim
 | _::_,[],h=>h.elim
 | rv::rvs,r::rs,⟨h1,h2⟩=>by
  obtain ⟨d,ids,hle,v,hrun,hd⟩:=load_result hT hst h1
  obtain ⟨ids',us,hrun',hds⟩:=results_ok hT hst h2
  refine ⟨ids++ids',v::us,?_,fun all G' hs hm hfz=>.cons (hle G'.M v (hd all G' (fun i hi=>hs i (by simp [hi])) hm hfz)) (hds all G' (fun i hi=>hs i (by simp [hi])) hm hfz)⟩
  rw [List.mapM_cons]
  simp only [Sem.run_bind]
  rw [hrun]
  simp only [Result.andThen_ok,Sem.run_bind,hrun',Sem.run_pure]
theorem entryA_look:∀(ds:List AV) (s t:Nat),look (entryA s ds) t=if s≤t then (match ds[t - s]? with | some d=>d | none=>.any) else .any
 | [],s,t=>by simp [entryA,look]
 | d::r,s,t=>by
  simp only [entryA,look]
  rw [entryA_look r (s+1) t]
  by_cases h1:s=t
  ·subst h1; simp
  ·have hb:Nat.beq s t=false:=by cases hb:Nat.beq s t with | false=>rfl | true=>exact absurd (Nat.eq_of_beq_eq_true hb) h1
   rw [hb]
   by_cases h2:s≤t
   ·have e:t - s=t - (s+1)+1:=by omega
    rw [if_pos h2,if_pos (by omega),e]; simp
   ·rw [if_neg h2,if_neg (by omega)]; simp
theorem resA_ok (hT:TOk P T) {ρ:Nat→AV} {κ:Nat→Box} {a:Act} {w:World} {G:Gh} (hst:StM g n ρ κ a w G):∀{rvs:List ResultVar} {q:List AV→Prop},resA T ρ κ rvs q →
  ∃(avs:List AV) (us:List Value),q avs∧((rvs.mapM fun | .tmp t=>pure (a.tmps.getD t undef) | .cell t ty=>do loadVar ty (←asAddr (a.tmps.getD t undef))):Sem (List Value)).run P w=.ok us w∧CRel G avs us
 | [],q,h=>⟨[],[],h,rfl,rfl,by simp⟩
 | .tmp t::rvs,q,h=>by
  simp only [resA,force_eq] at h
  obtain ⟨avs,us,hq,hrun,hc⟩:=resA_ok hT hst h
  have hv:=res_ok hst.fit (hst.env t)
  refine ⟨_,a.tmps.getD t undef::us,hq,?_,by simpa using hc.1,fun j d u hd hu=>?_⟩
  ·rw [List.mapM_cons]
   simp only [Sem.run_bind,Sem.run_pure,Result.andThen_ok,hrun]
  ·cases j with
   | zero =>
    rw [List.getElem?_cons_zero] at hd hu
    injection hd with hd; injection hu with hu; subst hd; subst hu; exact hv
   | succ j=>exact hc.2 j d u (by simpa using hd) (by simpa using hu)
 | .cell t ty::rvs,q,h=>by
  simp only [resA] at h
  have hh:=bif_true h; clear h; obtain ⟨hok,h⟩:=hh
  split at h
  ·rename_i i off hr
   split at h
   ·rename_i l hk
    obtain ⟨av,h,hp⟩:=pickCells_sound h
    obtain ⟨avs,us,hq,hrun,hc⟩:=resA_ok hT hst h
    have hv:=res_ok hst.fit (hst.env t)
    rw [hr] at hv
    have hbox:=hst.fit.box i
    rw [hk] at hbox
    obtain ⟨b,c,tt,hb0,hw,hsz,hcl,hrr⟩:=hbox
    generalize hx:a.tmps.getD t undef=x at hv
    cases hv with | ptr _ _ b' hb' =>
    rw [hb0] at hb'; injection hb' with hb'; subst hb'
    have hA:(⟨b,off,none⟩:Addr)=(⟨b,0,none⟩:Addr).add off:=by rw [add_at]; simp
    obtain ⟨v,h1,h2⟩:=load_known (P:=P) (av:=av) (w:=w) (G:=G) (l:=l) (off:=off) hT hok ⟨b,0,none⟩ (fun j=>c.getD j undef) (fun j hj=>by
      rw [add_at]
      simp [World.cell?,hw,hsz,hj]) (fun j d hd=>by
      have hj:j<l.length:=(List.getElem?_eq_some_iff.1 hd).1
      exact hrr j d _ hd (by simp [hsz,hj])) hp
    rw [←hA] at h1
    refine ⟨_,v::us,hq,?_,by simpa using hc.1,fun j d u hd hu=>?_⟩
    ·simp only [Instr.loadAt,Instr.sureAddr,Sem.run_bind,Sem.run_pure,Result.andThen_ok] at h1
     rw [List.mapM_cons]
     have h1':((do loadVar ty (←asAddr (a.tmps.getD t undef))):Sem Value).run P w=.ok v w:=by
      simp only [hx,asAddr,Sem.run_bind,Sem.run_pure,Result.andThen_ok]; exact h1
     rw [Sem.run_bind]
     simp only
     rw [h1']
     simp only [Result.andThen_ok,Sem.run_bind,hrun,Sem.run_pure]
    ·cases j with
     | zero=>simp at hd hu; subst hd; subst hu; exact h2
     | succ j=>exact hc.2 j d u (by simpa using hd) (by simpa using hu)
   ·exact h.elim
  ·exact h.elim
theorem run_results {fn:Func} {tmps:Array Value} {w:World} {us:List Value} (hrun:((fn.results.toList.mapM fun | .tmp t=>pure (tmps.getD t undef) | .cell t ty=>do loadVar ty (←asAddr (tmps.getD t undef))):Sem (List Value)).run P w=.ok us w) :
  (results fn tmps).run P w=.ok (if h:us.toArray.size=1 then us.toArray[0] else .tuple us.toArray) w:=by
 have hmap:((fn.results.mapM fun | .tmp t=>pure (tmps.getD t undef) | .cell t ty=>do loadVar ty (←asAddr (tmps.getD t undef))):Sem (Array Value)).run P w=.ok us.toArray w:=by
  rw [Array.mapM_eq_mapM_toList,Sem.run_map,hrun]
  rfl
 unfold results
 rw [Sem.run_bind]
 exact congrArg (fun r=>Result.andThen r (fun (vs:Array Value) w=>(pure (if h:vs.size=1 then vs[0] else .tuple vs):Sem Value).run P w)) hmap
theorem pspec_of (hT:TOk P T) (hm:P.follows .mixedOrders=true) (hC:CallsSnd P (fun _=>True)) (hRF:RangeSnd P) {f:Nat} {fn:Func} {c:Code} {args rs:List DV} (hf:P.funcs[f]?=some fn) (hb:fn.body=some c) (hname:(fn.name == "runtime.NumGoroutine")=false)
  (hargs:Nat.ble args.length fn.ntmps=true) (h:acode P T true fn.ntmps 0 c (fpost T fn rs) 0 (entryE 0 args) []):PSpec P f args rs:=by
 refine ⟨⟨fn,hf,hname,by rw [hb]; rfl⟩,fun w M vs hin hgl hr=>?_⟩
 refine (wide_wide.calls (n:=0)).1 (callsIn_of_wp_marks hf hb trivial ?_)
 have hlen:vs.length≤fn.ntmps:=by rw [←hr.1]; exact Nat.le_of_ble_eq_true hargs
 let g:Org:=⟨fun _=>False,w,M,0,fun _=>none,fun _ _=>none⟩
 let G0:Gh:=⟨M,fun _=>none,fun _ _ _ _=>none,fun _ _=>False⟩
 have hst:StM g fn.ntmps (look (entryE 0 args)) (lookB []) { tmps:=vs.toArray++Array.replicate (fn.ntmps - vs.toArray.size) undef,defers:=[] } w G0:=by
  refine { fit:=⟨hin,fun i=>⟨rfl,fun _ _ _=>rfl⟩,fun i b ho=>ho.elim,fun i j b ho=>ho.elim⟩,env:=fun t=>?_,size:=by simp; omega,bel:=fun _ _ _=>rfl,os:=rfl,tape:=rfl,output:=rfl,grow:=Nat.le_refl _,mem:=.refl M,mlow:=fun _ _ _=>rfl,ownhi:=fun i b ho=>ho.elim,bet:=fun i hi=>absurd hi (Nat.not_lt_zero _),hed:=fun i hi=>absurd hi (Nat.not_lt_zero _),glob:=hgl,dfr:=⟨[],rfl,List.nodup_nil,by simp⟩ }
  rw [entry_look]
  simp only [Nat.zero_le,if_true,Nat.sub_zero]
  split
  ·rename_i d hd
   have ht:t<vs.length:=by rw [←hr.1]; exact (List.getElem?_eq_some_iff.1 hd).1
   have hv:vs[t]?=some (vs[t]'ht):=List.getElem?_eq_getElem ht
   have:(vs.toArray++Array.replicate (fn.ntmps - vs.toArray.size) undef).getD t undef=vs[t]'ht:=by
    rw [Array.getD_eq_getD_getElem?,Array.getElem?_append_left (by simpa using ht)]
    simp [hv]
   rw [this]
   exact ofD_rel (hr.2 t d _ hd hv)
  ·exact .any _
 refine acode_sound (g:=g) hT hm hC hRF trivial wide_wide (fun _=>rfl) (Nat.le_refl _) c h ⟨⟨G0,hst⟩,Nat.le_refl _,fun _ _=>rfl⟩ fun e nx env K a w' hq hs=>?_
 obtain ⟨⟨G1,hst'⟩,_⟩:=hs
 have fin:resOk T (look env) (lookB K) fn.results.toList rs→LeavesInM Fence.wide 0 P fn a.tmps (fun e w'=>∃v M',e=.returned v∧Below w.heap.size w w'∧Mem.Le M M'∧M'.In w'∧(∀b,b<w.heap.size→M' b=M b)∧ResRel M' rs v) a.defers .returning w':=by
  intro hres
  obtain ⟨D,hD,_⟩:=hst'.dfr
  rw [hD]
  refine StM.leave (g:=g) (n:=fn.ntmps) (ρ:=look env) (κ:=lookB K) (G:=G1) a.tmps (fun w2 hst2=>?_) D w' (by have:=hst'; rw [←hD]; exact this)
  obtain ⟨ids,us,hrun,hds⟩:=results_ok hT hst2 hres
  obtain ⟨G2,hle,_,_,_,hfz⟩:=hst2.freezes (κ:=lookB K) ids (fun _ _=>rfl)
  have hdr:=hds ids G2 (fun i hi=>hi) hle hfz.fit
  have hbelow:Below w.heap.size w w2:=⟨hfz.os,hfz.tape,hfz.output,hfz.grow,fun b hb=>hfz.bel b hb (fun h=>h)⟩
  refine ⟨_,run_results hrun,_,G2.M,rfl,hbelow,hfz.mem,hfz.fit.sub,fun b hb=>hfz.mlow b hb (fun h=>h),?_⟩
  have hul:us.length=rs.length:=hdr.1.symm
  have many:us.length ≠ 1→∃us':List Value,(if h:us.toArray.size=1 then us.toArray[0] else Value.tuple us.toArray)=.tuple us'.toArray∧DRels G2.M rs us':=by
   intro hne
   refine ⟨us,?_,hdr⟩
   rw [dif_neg (by simpa using hne)]
  match rs,hdr,hul,many with
  | [],hdr,hul,many=>exact many (by simp at hul; simp [hul])
  | [d],hdr,hul,_ =>
   match us,hul,hdr with
   | [u],_,hdr=>exact hdr.2 0 d u rfl rfl
  | _::_::_,hdr,hul,many=>exact many (by simp at hul; omega)
 cases e with
 | normal=>exact fin hq
 | ret=>exact fin hq
 | exit i=>exact hq.elim
theorem cspecR_of (hT:TOk P T) (hm:P.follows .mixedOrders=true) (hC:CallsSnd P (fun _=>True)) (hRF:RangeSnd P) {f:Nat} {fn:Func} {c:Code} {args:List AV} {m ex:Nat} {K:Boxes} {R:List AV→Boxes→Prop} (hf:P.funcs[f]?=some fn) (hb:fn.body=some c) (hname:(fn.name == "runtime.NumGoroutine")=false)
  (hargs:(Nat.ble args.length fn.ntmps && AState.wf ⟨m,entryA 0 args,K⟩)=true) (h:acode P T true fn.ntmps m c (fpostC T fn m ex R) m (entryA 0 args) K):CSpecR P f args m K ex R:=by
 refine ⟨⟨fn,hf,hname,by rw [hb]; rfl⟩,fun w G vs hgl hfit hr=>?_⟩
 refine (wide_wide.calls (n:=0)).1 (callsIn_of_wp_marks hf hb trivial ?_)
 simp only [Bool.and_eq_true,AState.wf] at hargs
 obtain ⟨hlen,hwB,hwE⟩:=hargs
 have hlen:vs.length≤fn.ntmps:=by rw [←hr.1]; exact Nat.le_of_ble_eq_true hlen
 let g:Org:=⟨fun b=>∃i,Own G i (lookB K i) b,w,G.M,m,G.β,fun i p=>G.H i 0 0 p⟩
 have hst:StM g fn.ntmps (look (entryA 0 args)) (lookB K) { tmps:=vs.toArray++Array.replicate (fn.ntmps - vs.toArray.size) undef,defers:=[] } w G:=by
  refine { fit:=hfit,env:=fun t=>?_,size:=by simp; omega,bel:=fun _ _ _=>rfl,os:=rfl,tape:=rfl,output:=rfl,grow:=Nat.le_refl _,mem:=.refl G.M,mlow:=fun _ _ _=>rfl,ownhi:=fun i b ho=>.inr ⟨i,ho⟩,bet:=fun _ _=>rfl,hed:=fun _ _ _ _ hx=>hx,glob:=hgl,dfr:=⟨[],rfl,List.nodup_nil,by simp⟩ }
  rw [entryA_look]
  simp only [Nat.zero_le,if_true,Nat.sub_zero]
  split
  ·rename_i d hd
   have ht:t<vs.length:=by rw [←hr.1]; exact (List.getElem?_eq_some_iff.1 hd).1
   have hv:vs[t]?=some (vs[t]'ht):=List.getElem?_eq_getElem ht
   have:(vs.toArray++Array.replicate (fn.ntmps - vs.toArray.size) undef).getD t undef=vs[t]'ht:=by
    rw [Array.getD_eq_getD_getElem?,Array.getElem?_append_left (by simpa using ht)]
    simp [hv]
   rw [this]
   exact hr.2 t d _ hd hv
  ·exact .any _
 refine acode_sound (g:=g) hT hm hC hRF trivial wide_wide (fun _=>rfl) (Nat.le_refl _) c h ⟨⟨G,hst⟩,Nat.le_refl _,fun i hi=>wfB_none hwB hi⟩ fun e nx env K1 a w' hq hs=>?_
 obtain ⟨⟨G1,hst'⟩,_⟩:=hs
 have fin:outOk T fn m ex R env K1→LeavesInM Fence.wide 0 P fn a.tmps (fun e w'=>∃v rs K' G',e=.returned v∧R rs K'∧COut m ex (lookB K) w G rs (lookB K') w' G' v) a.defers .returning w':=by
  intro hres
  obtain ⟨D,hD,_⟩:=hst'.dfr
  rw [hD]
  refine StM.leave (g:=g) (n:=fn.ntmps) (ρ:=look env) (κ:=lookB K1) (G:=G1) a.tmps (fun w2 hst2=>?_) D w' (by have:=hst'; rw [←hD]; exact this)
  obtain ⟨avs,us,⟨rs,K2,hR,hchk,hsV,hsB⟩,hrun,hrel⟩:=resA_ok hT hst2 hres
  simp only [outChk,Bool.and_eq_true] at hchk
  obtain ⟨⟨⟨hwf2,hscr⟩,hfr⟩,hfull⟩:=hchk
  obtain ⟨G2,_,hvs,hst3⟩:=hst2.sub (m:=m) (Nat.le_refl _) (F:=fidws (lookB K1) rs avs++fidsB (lookB K1) K2) hwf2 (fun i hi=>List.mem_append.2 (.inr hi)) hfr hfull hsB
  have hdr:=hvs rs avs us hsV hscr (fun i hi=>List.mem_append.2 (.inl hi)) hrel
  have hst4:=hst3 (fun _=>.any) (fun _=>.any _)
  refine ⟨_,run_results hrun,_,rs,K2,G2,rfl,hR,⟨hst4.fit,fun i hi=>wfB_none hwf2 hi,?_,hst4.mem,hst4.bet,hst4.hed,fun b hb hO=>⟨hst4.bel b hb (fun ⟨i,h⟩=>hO i h),hst4.mlow b hb (fun ⟨i,h⟩=>hO i h)⟩,hst4.ownhi,hst4.os,hst4.tape,hst4.output,hst4.grow⟩⟩
  have hul:us.length=rs.length:=hdr.1.symm
  have many:us.length ≠ 1→VRel G2 (.tup rs) (if h:us.toArray.size=1 then us.toArray[0] else Value.tuple us.toArray):=by
   intro hne
   rw [dif_neg (by simpa using hne)]
   exact .tup rs us hdr.1 hdr.2
  match rs,hdr,hul,many with
  | [],hdr,hul,many=>exact many (by simp at hul; simp [hul])
  | [d],hdr,hul,_ =>
   match us,hul,hdr with
   | [u],_,hdr=>exact hdr.2 0 d u rfl rfl
  | _::_::_,hdr,hul,many=>exact many (by simp at hul; omega)
 cases e with
 | normal=>exact fin hq
 | ret=>exact fin hq
 | exit i=>exact hq.elim
theorem cspec_of (hT:TOk P T) (hm:P.follows .mixedOrders=true) (hC:CallsSnd P (fun _=>True)) (hRF:RangeSnd P) {f:Nat} {fn:Func} {c:Code} {args:List AV} {m ex:Nat} {K:Boxes} {rs:List AV} {K':Boxes} (hf:P.funcs[f]?=some fn) (hb:fn.body=some c) (hname:(fn.name == "runtime.NumGoroutine")=false)
  (hargs:(Nat.ble args.length fn.ntmps && AState.wf ⟨m,entryA 0 args,K⟩)=true) (h:acode P T true fn.ntmps m c (fpostC T fn m ex fun r k=>r=rs∧k=K') m (entryA 0 args) K):CSpec P f args m K ex rs K' :=
 cspecR_of hT hm hC hRF hf hb hname hargs h
end
end Go.TM
