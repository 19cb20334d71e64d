import Derived.Test.YtpbdohkbiklflaaGreatDoorNM9
import Derived.Laws.BytesString
set_option linter.unusedVariables false
set_option linter.unusedSimpArgs false
set_option linter.unusedSectionVars false
namespace Go.TM
open Go.RowKit
variable [Glob]
section
variable {P:Program} {C:Org→Prop} {T:List TI} {ops:List Oper} {n:Nat} {o:Oper} {nx:Nat} {ρ:Nat→AV} {κ:Nat→Box} {k:Eff→Nat→Prop} {gd:Bool}
def BndOk (ρ:Nat→AV) (κ:Nat→Box) (g:Bool):Option Operand→Option Int→Prop
 | none,none=>True
 | some x,some n=>EvOk ρ κ g x (.dv (.int .i64 n))
 | _,_=>False
theorem exI_sound {x:Option Operand} {q:Option Int→Prop} (h:exI ρ κ gd x q):∃b,q b∧BndOk ρ κ gd x b:=by
 unfold exI at h
 split at h
 ·exact ⟨none,h,tv⟩
 ·obtain ⟨v,h,hv⟩:=ex_sound h
  split at h
  ·rename_i m; exact ⟨some m,h,hv⟩
  ·exact h.elim
theorem BndOk.val {ρ':Nat→AV} {κ':Nat→Box} {g:Org} {a:Act} {w:World} {G:Gh} {x:Option Operand} {b:Option Int} (h:BndOk ρ κ gd x b) (hst:StM g n ρ' κ' a w G) (hgd:gd=true) (hag:∀y,x=some y→Agr1 ρ ρ' κ κ' y):x.map a.eval=b.map (Value.int .i64):=by
 cases x with
 | none=>cases b with
  | none=>rfl
  | some=>exact h.elim
 | some y=>cases b with
  | none=>exact h.elim
  | some m =>
   have hv:=h ρ' κ' (hag y rfl) g n a w G hst hgd
   simp only [Option.map_some]
   generalize a.eval y=v at hv
   cases hv with | dv hv=>cases hv with | int=>rfl
theorem run_bounds {w:World} {isSl:Bool} {len cap:Nat} {lo hi:Option Int} (h1:0≤lo.getD 0) (h2:lo.getD 0≤hi.getD len) (h3:hi.getD len≤len) (h4:len≤cap) :
  (Instr.sliceBounds isSl len cap (lo.map (Value.int .i64)) (hi.map (Value.int .i64)) none).run P w=.ok ((lo.getD 0).toNat,(hi.getD len).toNat,cap) w:=by
 cases lo with
 | none =>
  cases hi with
  | none=>simp [Instr.sliceBounds]
  | some h =>
   simp only [Option.getD_some,Option.getD_none] at *
   have:0≤h∧h≤(cap:Int):=by omega
   simp [Instr.sliceBounds,Instr.sliceBound,asIntOf,this]
 | some l =>
  cases hi with
  | none =>
   simp only [Option.getD_some,Option.getD_none] at *
   have:0≤l∧l≤(len:Int):=by omega
   simp [Instr.sliceBounds,Instr.sliceBound,asIntOf,this]
  | some h =>
   simp only [Option.getD_some] at *
   have h5:0≤h∧h≤(cap:Int):=by omega
   have h6:0≤l∧l≤h:=by omega
   have h7:(max h 0:Int)=h:=by omega
   simp [Instr.sliceBounds,Instr.sliceBound,asIntOf,h5,h6,h7]
theorem op_convS (hT:TOk P T) {s t:Nat} {x:Operand} {v:AV} (hg:gval ρ ops o.guard=some gd) (ho:o.op=.convert s t x) (hs:(nth T s).ok=true) (ht:(nth T t).ok=true)
  (h:aconvS (nth T s) (nth T (nth T s).elem) (nth T t) κ v fun r rd=>retv n o gd nx k r rd) (hev:EvOk ρ κ gd x v):Good P C ops n o nx ρ κ k:=by
 obtain ⟨i1,u1,z1,tf1⟩:=hT.facts hs
 obtain ⟨i2,u2,z2,tf2⟩:=hT.facts ht
 unfold aconvS at h
 cases hb:(nth T s).isSl && (nth T (nth T s).elem).ok && isU8 (nth T (nth T s).elem).ikd && (nth T t).isStr with
 | false=>rw [hb] at h; exact h.elim
 | true =>
 rw [hb] at h
 simp only [cond_true] at h
 simp only [Bool.and_eq_true] at hb
 obtain ⟨⟨⟨hsl,hel⟩,hu8⟩,hst⟩:=hb
 obtain ⟨i3,u3,z3,tf3⟩:=hT.facts hel
 have hu1:=tf1.slice hsl
 have hu2:=tf2.string hst
 have hu3:P.underlying (nth T s).elem=some (.int .u8):=by
  have h3:=tf3.ikd
  rw [h3] at hu8
  cases u3 <;> simp [ikdOf,isU8] at hu8
  rename_i kk
  cases kk <;> simp [isU8] at hu8
  exact tf3.und
 have hnd:∀c,o.op ≠ .defer c:=fun c=>by rw [ho]; simp
 rcases asList_sound h with ⟨rfl,hk⟩ | ⟨sz,ys,rd,kill,hk,hrd,hkr,hsrc⟩
 ·refine snd_val hnd hg hk fun ρ' κ' hag g a w G hst hgd=>?_
  have hv:=hev ρ' κ' (hag.op (by rw [ho]; simp [Op.operands])) g n a w G hst hgd
  generalize hx:a.eval x=q at hv
  cases hv with | dv hv=>cases hv with | nils =>
  exact ⟨.string .empty,by simp [execOp,ho,hx,run_convert_bytes_string w s t _ none 0 0 hu1 hu3 hu2,Conv.bytesToString],.dv (.str _)⟩
 ·cases hb:Nat.beq sz 1 && noneN kill with
  | false=>rw [hb] at hk; exact hk.elim
  | true =>
  rw [hb] at hk
  simp only [cond_true] at hk
  simp only [Bool.and_eq_true] at hb
  have:=Nat.eq_of_beq_eq_true hb.1
  subst this
  obtain ⟨ns,rfl,hk⟩:=hk
  refine snd_val hnd hg hk fun ρ' κ' hag g a w G hst hgd=>?_
  have hv:=hev ρ' κ' (hag.op (by rw [ho]; simp [Op.operands])) g n a w G hst hgd
  obtain ⟨hs',hsr,_⟩:=hsrc κ' G w _ (fun i hi=>hag.reads i hi) hst.fit hv
  generalize hx:a.eval x=q at hsr
  rcases hsr.srcG with ⟨c,rfl,hnil⟩ | ⟨A,cap,cell,rfl,hcell⟩
  ·have:ns=[]:=by simpa using hnil
   subst this
   exact ⟨.string .empty,by simp [execOp,ho,hx,run_convert_bytes_string w s t _ none 0 c hu1 hu3 hu2,Conv.bytesToString],.dv (.str _)⟩
  ·have hload:(loadCells A (ns.map (DV.int .u8)).length).run P w=.ok (ns.map (Value.int .u8)).toArray w:=by
    have h1:=run_loadCells (P:=P) w A (ns.map (DV.int .u8)).length (fun j=>Value.int .u8 (ns.getD j 0)) (fun j hj=>by
     have hj':j<ns.length:=by simpa using hj
     obtain ⟨_,h2⟩:=hcell j (.int .u8 ns[j]) (by simp [hj'])
     obtain ⟨_,h3,_,_,h4⟩:=h2 0 (.int .u8 ns[j]) rfl
     rw [Nat.mul_one,Nat.add_zero] at h3
     rw [h3]
     rcases h4 with ⟨h5,_⟩ | ⟨_,h5⟩
     ·cases h5
     ·generalize cell j 0=u at h5 ⊢
      cases h5 with | int=>simp [List.getD,hj'])
    rw [h1]
    congr 2
    refine List.ext_getElem (by simp) fun j h2 h3=>?_
    simp at h2 h3
    simp [List.getD,h3]
   refine ⟨.string (bytOf ns),?_,.dv (.str _)⟩
   have h2:=run_bytesToString (P:=P) w A (ns.map (DV.int .u8)).length cap ns hload
   simp only [execOp,ho,hx,Sem.run_bind,run_convert_bytes_string w s t _ (some A) _ cap hu1 hu3 hu2,h2,Result.andThen_ok,Sem.run_pure]
   rfl
theorem bif_true {c:Bool} {p:Prop} (h:bif c then p else False):c=true∧p:=by cases c <;> simp_all
theorem StM.cut {g:Org} {κ' κ2:Nat→Box} {a:Act} {w:World} {G:Gh} (hst:StM g n ρ κ' a w G) {i ver ep' sz:Nat} {xs:List DV} (hki:κ' i=.tree ver ep' (.osl sz xs)) {L H:Int} (b1:0≤L) (b2:L≤H) (b3:H≤xs.length)
  (h1:κ2 i=.tree (ver+1) 0 (.osl sz ((xs.take H.toNat).drop L.toNat))) (h3:∀j,j ≠ i→κ2 j=κ' j) {v0:Value} (hv0:hdr G.H i ver ep' []=some v0) :
  ∃A cap,v0=.slice A xs.length cap∧xs.length≤cap∧∃G',StM g n ρ κ2 a w G'∧VRel G' (.own i (ver+1) 0 []) (.slice (if cap=L.toNat then A else A.map (·.add (L.toNat * sz))) (H.toNat - L.toNat) (cap - L.toNat)):=by
 have hbx:=hst.fit.box i
 rw [hki] at hbx
 obtain ⟨ht,hinj,hf1,hf2⟩:=hbx
 obtain ⟨v0',hh1,hvc,hnode⟩:=ht.2 [] _ rfl rfl
 rw [hv0] at hh1; injection hh1 with hh1; subst hh1
 have hh1:=hv0
 have hlen:((xs.take H.toNat).drop L.toNat).length=H.toNat - L.toNat:=by simp; omega
 let hN:Value→List PS→Option Value:=fun v' q=>match q with
  | []=>some v'
  | .el i' j::r=>hdr G.H i ver ep' (.el (i'+L.toNat) j::r)
  | _=>none
 have fin:∀v':Value,v'.oneCell'=true→(∀b,blk v'=some b→blk v0=some b)→NodeAt G.M w v' (fun s=>hN v' ([]++[s])) (.osl sz ((xs.take H.toNat).drop L.toNat)) →
   ∃G',StM g n ρ κ2 a w G'∧VRel G' (.own i (ver+1) 0 []) v':=by
  intro v' hvc' hbl hnd'
  have kid:∀i' j c,step (.osl sz ((xs.take H.toNat).drop L.toNat)) (.el i' j)=some c→step (.osl sz xs) (.el (i'+L.toNat) j)=some c:=by
   intro i' j c hc
   simp only [step] at hc ⊢
   rw [List.getElem?_drop,List.getElem?_take] at hc
   by_cases e:L.toNat+i'<H.toNat
   ·rw [if_pos e,Nat.add_comm] at hc; exact hc
   ·rw [if_neg e] at hc; cases hc
  have el:∀s c,step (.osl sz ((xs.take H.toNat).drop L.toNat)) s=some c→∃i' j,s=.el i' j:=by
   intro s c hs'
   cases s with
   | el i' j=>exact ⟨i',j,rfl⟩
   | key=>simp [step] at hs'
  obtain ⟨m1,m2,m3⟩:=TreeAt.reNode (w:=w) (w':=w) (h:=nilH) (h':=hN v') (p:=[]) (n:=.osl sz []) (n':=.osl sz ((xs.take H.toNat).drop L.toNat)) (v:=.slice none 0 0) (v':=v') (fun _=>True) (nil_tree G.M w _) (nil_inj _) rfl rfl rfl rfl rfl hvc' (.inl rfl) hnd'
   (fun q hq=>absurd (List.nil_prefix) hq) (fun s c _ _ hN=>absurd trivial hN)
   (fun s c hs' hco _=>by
    obtain ⟨i',j,rfl⟩:=el s c hs'
    have hg':get (.osl sz xs) [.el (i'+L.toNat) j]=some c:=by simp [get,kid i' j c hs']
    refine ⟨ht.sub hg' hco,hinj.sub hg',fun b hb=>⟨fun h=>nil_own h,fun hb'=>?_⟩⟩
    obtain ⟨q,m,uu,c1,c2,c3,c4⟩:=hb
    have:=hinj [] (.el (i'+L.toNat) j::q) _ m v0 uu b rfl rfl hh1 (hbl b hb') (by simp only [get,kid i' j c hs']; exact c1) c2 c3 c4
    cases this)
   (fun s s' c c' b hs1 ho1 _ hs2 ho2 _ hb1 hb2=>by
    obtain ⟨i1,j1,rfl⟩:=el s c hs1
    obtain ⟨i2,j2,rfl⟩:=el s' c' hs2
    obtain ⟨q,m,uu,c1,c2,c3,c4⟩:=hb1
    obtain ⟨q',m',uu',d1,d2,d3,d4⟩:=hb2
    have:=hinj (.el (i1+L.toNat) j1::q) (.el (i2+L.toNat) j2::q') m m' uu uu' b (by simp only [get,kid i1 j1 c hs1]; exact c1) c2 c3 c4 (by simp only [get,kid i2 j2 c' hs2]; exact d1) d2 d3 d4
    injection this with e1 _
    injection e1 with e1 e2
    have:i1=i2:=by omega
    rw [this,e2])
   (fun b hb=>.inr fun h=>nil_own h) (fun b h=>(nil_own h).elim)
  obtain ⟨G',g1,g2,_,g4,_,_,g7⟩:=hst.setTree (κ':=κ2) (w':=w) (i:=i) (ver:=ver+1) (ep:=0) (d:=.osl sz ((xs.take H.toNat).drop L.toNat)) (fun _=>False) (hN v') (fun h=>h.elim) (.inr ⟨ver,ep',_,hki,by omega,by omega⟩) (fun _ h=>h.elim) h1 (fun j hj _=>h3 j hj)
   (fun q y hy=>by cases q <;> simp [hdr,hf1 (ver+1) (by omega)] at hy) m1 m2
   (fun b hb=>by
    rcases m3 b hb with h5 | h5 | ⟨s,c,s1,s2,_,s4⟩
    ·exact (nil_own h5).elim
    ·exact .inr (.inl (by rw [hki]; exact ⟨[],_,v0,rfl,rfl,hh1,hbl b h5⟩))
    ·obtain ⟨i',j,rfl⟩:=el s c s1
     have hg':get (.osl sz xs) [.el (i'+L.toNat) j]=some c:=by simp [get,kid i' j c s1]
     exact .inr (.inl (by rw [hki]; exact TOwn.sub (p:=[.el (i'+L.toNat) j]) hg' s4)))
   (fun _ _ _ _=>rfl) (fun b hb=>by
    rcases hb with h5 | ⟨_,h5,_⟩
    ·exact hst.fit.own i b h5
    ·exact h5.elim) (Nat.le_refl _) rfl rfl rfl
  exact ⟨G',g7,.own _ _ _ _ _ ((g4 []).trans rfl) hvc'⟩
 rcases hnode with ⟨rfl,rfl⟩ | ⟨gb,ob,cap,c,tt,rfl,hcap,hw,hcs,hxx⟩
 ·simp at b3
  have hL:L=0:=by omega
  have hH:H=0:=by omega
  subst hL; subst hH
  refine ⟨none,0,rfl,Nat.le_refl _,?_⟩
  simpa using fin (.slice none 0 0) rfl (by simp [blk]) (.inl ⟨by simp,rfl⟩)
 ·refine ⟨_,_,rfl,hcap,fin _ rfl ?_ ?_⟩
  ·intro b hb
   split at hb
   ·exact hb
   ·simp only [Option.map_some,blk,add_at] at hb; exact hb
  ·by_cases e:cap=L.toNat
   ·have hnil:(xs.take H.toNat).drop L.toNat=[]:=List.eq_nil_of_length_eq_zero (by rw [hlen]; omega)
    rw [if_pos e,hnil]
    rw [show cap - L.toNat=0 by omega,show H.toNat - L.toNat=0 by omega]
    refine .inr ⟨gb,ob,0,c,tt,rfl,by simp,hw,by omega,by simp⟩
   ·rw [if_neg e]
    refine .inr ⟨gb,ob+L.toNat * sz,cap - L.toNat,c,tt,by simp only [Option.map_some,add_at]; rw [hlen],by rw [hlen]; omega,hw,?_,fun i' y hy=>?_⟩
    ·have:L.toNat * sz+(cap - L.toNat) * sz=cap * sz:=by rw [←Nat.add_mul]; congr 1; omega
     omega
    ·rw [List.getElem?_drop,List.getElem?_take] at hy
     split at hy
     ·obtain ⟨c1,c2⟩:=hxx _ y hy
      refine ⟨c1,fun j d' hd'=>?_⟩
      obtain ⟨d1,uu,d2,d3⟩:=c2 j d' hd'
      refine ⟨d1,uu,?_,?_⟩
      ·rw [←d2]; congr 1; rw [Nat.add_mul]; omega
      ·show CellR G.M (hdr G.H i ver ep' [.el (i'+L.toNat) j]) d' uu
       rw [Nat.add_comm]; exact d3
     ·cases hy
theorem op_sliceO (hT:TOk P T) {t:Nat} {x:Operand} {l h:Option Operand} {v:AV} {lo hi:Option Int} (hg:gval ρ ops o.guard=some gd) (ho:o.op=.slice t x l h none) (hn:∀i,nx≤i→κ i=.none)
  (hok:(nth T t).ok=true) (hsl:((nth T t).isSl && (nth T (nth T t).elem).ok || (nth T t).isStr)=true) (hx:EvOk ρ κ gd x v) (hl:BndOk ρ κ gd l lo) (hh:BndOk ρ κ gd h hi)
  (hk:asliceO (nth T t) (nth T (nth T t).elem).size κ gd v lo hi (fun v=>retv n o gd nx k v []) (fun v bx rd=>retb n o nx k v bx rd)):Good P C ops n o nx ρ κ k:=by
 obtain ⟨ti,u,z,tf⟩:=hT.facts hok
 have hnd:∀c,o.op ≠ .defer c:=fun c=>by rw [ho]; simp
 have mx:x∈o.op.operands:=by rw [ho]; simp [Op.operands]
 have ml:∀y,l=some y→y∈o.op.operands:=fun y hy=>by rw [ho,hy]; simp [Op.operands]
 have mh:∀y,h=some y→y∈o.op.operands:=fun y hy=>by rw [ho,hy]; simp [Op.operands]
 have cut:∀{w:World} {a:Act} {A:Option Addr} {len cap:Nat},(nth T t).isSl=true→a.eval x=.slice A len cap→l.map a.eval=lo.map (Value.int .i64)→h.map a.eval=hi.map (Value.int .i64)→0≤lo.getD 0→lo.getD 0≤hi.getD len→hi.getD len≤len→len≤cap→(nth T (nth T t).elem).ok=true →
   (execOp a.eval o).run P w=.ok (.value (.slice (if cap=(lo.getD 0).toNat then A else A.map (·.add ((lo.getD 0).toNat * (nth T (nth T t).elem).size))) ((hi.getD len).toNat - (lo.getD 0).toNat) (cap - (lo.getD 0).toNat))) w:=by
  intro w a A len cap hs hxe hle hhe h1 h2 h3 h4 helok
  obtain ⟨te,ue,ze,tfe⟩:=hT.facts helok
  have hb:=run_bounds (P:=P) (w:=w) (isSl:=true) (len:=len) (cap:=cap) h1 h2 h3 h4
  have hrs:=tfe.run_size w
  simp [execOp,ho,Instr.sliceAt,Instr.slice,run_underlying (tf.slice hs),hxe,hle,hhe,hb,hrs]
 unfold asliceO at hk
 split at hk
 ·rename_i sz xs
  cases hb0:(nth T t).isSl && Nat.beq sz (nth T (nth T t).elem).size with
  | false=>rw [hb0] at hk; exact hk.elim
  | true =>
  rw [hb0] at hk
  obtain ⟨hbd,hk⟩:=hk
  simp only [Bool.and_eq_true] at hb0
  obtain ⟨hs,hszb⟩:=hb0
  have:=Nat.eq_of_beq_eq_true hszb
  subst this
  have helok:(nth T (nth T t).elem).ok=true:=by
   simp only [Bool.or_eq_true,Bool.and_eq_true] at hsl
   rcases hsl with h5 | h5
   ·exact h5.2
   ·exfalso
    have q1:=tf.isSl; have q2:=tf.isStr
    rw [hs] at q1; rw [h5] at q2
    cases u <;> simp [slOf,strOf] at q1 q2
  refine snd_val hnd hg hk fun ρ' κ' hag g a w G hst hgd=>?_
  have hv:=hx ρ' κ' (hag.op mx) g n a w G hst hgd
  have hle:=hl.val hst hgd (fun y hy=>hag.op (ml y hy))
  have hhe:=hh.val hst hgd (fun y hy=>hag.op (mh y hy))
  obtain ⟨b1,b2,b3⟩:=hbd hgd
  generalize hxe:a.eval x=q at hv
  cases hv with | dv hv =>
  generalize hlo:lo.getD 0=L at b1 b2 b3 ⊢
  generalize hhi:hi.getD (xs.length:Int)=H at b1 b2 b3 ⊢
  have hlen:((xs.take H.toNat).drop L.toNat).length=H.toNat - L.toNat:=by simp; omega
  cases hv with
  | slnil =>
   simp at b3 hhi
   have hL:L=0:=by omega
   have hH:H=0:=by omega
   subst hL; subst hH
   refine ⟨_,cut hs hxe hle hhe (by rw [hlo]; omega) (by rw [hlo]; simp [hhi]) (by simp [hhi]) (Nat.le_refl _) helok,?_⟩
   rw [hlo]
   simp [hhi]
   exact .dv (.slnil _)
  | sl _ _ A cap cell hcap hlc hc hr =>
   refine ⟨_,cut hs hxe hle hhe (by rw [hlo]; omega) (by rw [hlo,hhi]; omega) (by rw [hhi]; omega) hcap helok,.dv ?_⟩
   rw [hlo,hhi]
   by_cases e:cap=L.toNat
   ·have hnil:(xs.take H.toNat).drop L.toNat=[]:=List.eq_nil_of_length_eq_zero (by rw [hlen]; omega)
    rw [if_pos e,hnil,show H.toNat - L.toNat=0 by omega,show cap - L.toNat=0 by omega]
    exact .sl _ [] A 0 (fun _ _=>undef) (Nat.le_refl _) (by simp) (by simp) (by simp)
   ·rw [if_neg e]
    simp only [Option.map_some]
    rw [←hlen]
    refine .sl _ _ _ _ (fun i j=>cell (L.toNat+i) j) (by rw [hlen]; omega) (fun y hy=>hlc y (List.mem_of_mem_take (List.mem_of_mem_drop hy))) (fun i j hi hj=>?_) (fun i y j d hy hd=>?_)
    ·rw [add_of_add]
     have:=hc (L.toNat+i) j (by rw [hlen] at hi; omega) hj
     rw [Nat.add_mul] at this
     rw [show L.toNat * (nth T (nth T t).elem).size+(i * (nth T (nth T t).elem).size+j)=L.toNat * (nth T (nth T t).elem).size+i * (nth T (nth T t).elem).size+j by omega]
     exact this
    ·rw [List.getElem?_drop,List.getElem?_take] at hy
     split at hy
     ·exact hr _ y j d hy hd
     ·cases hy
 ·rename_i i ver ep
  split at hk
  ·rename_i ver' ep' d hki
   cases hb:Nat.beq ver ver' with
   | false=>rw [hb] at hk; exact hk.elim
   | true =>
   rw [hb] at hk
   simp only [cond_true] at hk
   have:=Nat.eq_of_beq_eq_true hb
   subst this
   cases d with
   | osl sz xs =>
    simp only at hk
    cases hb0:(nth T t).isSl && Nat.beq sz (nth T (nth T t).elem).size with
    | false=>rw [hb0] at hk; exact hk.elim
    | true =>
    rw [hb0] at hk
    obtain ⟨⟨b1,b2,b3⟩,hk⟩:=hk
    simp only [Bool.and_eq_true] at hb0
    obtain ⟨hs,hszb⟩:=hb0
    have:=Nat.eq_of_beq_eq_true hszb
    subst this
    have helok:(nth T (nth T t).elem).ok=true:=by
     simp only [Bool.or_eq_true,Bool.and_eq_true] at hsl
     rcases hsl with h5 | h5
     ·exact h5.2
     ·exfalso
      have q1:=tf.isSl; have q2:=tf.isStr
      rw [hs] at q1; rw [h5] at q2
      cases u <;> simp [slOf,strOf] at q1 q2
    have hilt:i<nx:=lt_nx hn ⟨_,_,_,hki⟩
    refine snd_run hnd hg hk (Nat.le_refl _) (by simpa using hilt) fun ρ' κ' hag g a w G hgm hst hgd=>?_
    have he:=hag.reads i (by simp)
    have hv:=hx ρ' κ' (hag.op mx) g n a w G hst hgd
    have hle:=hl.val hst hgd (fun y hy=>hag.op (ml y hy))
    have hhe:=hh.val hst hgd (fun y hy=>hag.op (mh y hy))
    have hbx:=hst.fit.box i
    rw [he,hki] at hbx
    obtain ⟨ht,hinj,hf1,hf2⟩:=hbx
    obtain ⟨v0,hh1,hvc,hnode⟩:=ht.2 [] _ rfl rfl
    have hxe:a.eval x=v0:=by
     generalize a.eval x=q at hv
     cases hv with | own _ _ _ _ _ hh' hc=>have:hdr G.H i ver ep' []=some q:=hh'
                                           rw [hh1] at this; injection this with this; exact this.symm
    obtain ⟨A,cap,rfl,hcap,G',g7,hvr⟩:=hst.cut (κ2:=updl κ' [(i,.tree (ver+1) 0 (.osl (nth T (nth T t).elem).size ((xs.take (hi.getD xs.length).toNat).drop (lo.getD 0).toNat)))]) (he.trans hki) b1 b2 b3 (by simp [updl]) (fun j hj=>by simp [updl,upd_other _ _ hj]) hh1
    exact ⟨_,w,G',.inl (cut hs hxe hle hhe b1 b2 b3 hcap helok),g7,hvr⟩
   | _=>exact hk.elim
  ·exact hk.elim
 ·rename_i s
  cases hst':(nth T t).isStr with
  | false=>rw [hst'] at hk; exact hk.elim
  | true =>
   rw [hst'] at hk
   obtain ⟨hbd,hk⟩:=hk
   refine snd_val hnd hg hk fun ρ' κ' hag g a w G hst hgd=>?_
   have hv:=hx ρ' κ' (hag.op mx) g n a w G hst hgd
   have hle:=hl.val hst hgd (fun y hy=>hag.op (ml y hy))
   have hhe:=hh.val hst hgd (fun y hy=>hag.op (mh y hy))
   obtain ⟨b1,b2,b3⟩:=hbd hgd
   generalize hxe:a.eval x=q at hv
   cases hv with | dv hv=>cases hv with | str =>
   have hb:=run_bounds (P:=P) (w:=w) (isSl:=false) (len:=s.size) (cap:=s.size) b1 b2 b3 (Nat.le_refl _)
   refine ⟨_,?_,.dv (.str _)⟩
   simp [execOp,ho,Instr.sliceAt,Instr.slice,run_underlying (tf.string hst'),hxe,hle,hhe,hb]
 ·exact hk.elim
theorem op_slice (hT:TOk P T) {t:Nat} {x:Operand} {l h:Option Operand} {v:AV} {lo hi:Option Int} (hg:gval ρ ops o.guard=some gd) (ho:o.op=.slice t x l h none) (hn:∀i,nx≤i→κ i=.none)
  (hok:(nth T t).ok=true) (hsl:((nth T t).isSl && (nth T (nth T t).elem).ok || (nth T t).isStr)=true) (hx:EvOk ρ κ gd x v) (hl:BndOk ρ κ gd l lo) (hh:BndOk ρ κ gd h hi)
  (hk:aslice (nth T t) (nth T (nth T t).elem).size κ gd nx v lo hi (fun v rd=>retv n o gd nx k v rd) (fun v bx rd=>retb n o nx k v bx rd) (fun v bx rd=>retb n o (nx+1) k v bx rd)):Good P C ops n o nx ρ κ k:=by
 unfold aslice at hk
 split at hk
 ·rename_i i ver ep p
  rcases hk with hk | hk | hk
  ·exact op_sliceO hT hg ho hn hok hsl hx hl hh hk
  all_goals
   obtain ⟨ti,u,z,tf⟩:=hT.facts hok
   have hnd:∀c,o.op ≠ .defer c:=fun c=>by rw [ho]; simp
   have mx:x∈o.op.operands:=by rw [ho]; simp [Op.operands]
   have ml:∀y,l=some y→y∈o.op.operands:=fun y hy=>by rw [ho,hy]; simp [Op.operands]
   have mh:∀y,h=some y→y∈o.op.operands:=fun y hy=>by rw [ho,hy]; simp [Op.operands]
   have cut:∀{w:World} {a:Act} {A:Option Addr} {len cap:Nat},(nth T t).isSl=true→a.eval x=.slice A len cap→l.map a.eval=lo.map (Value.int .i64)→h.map a.eval=hi.map (Value.int .i64)→0≤lo.getD 0→lo.getD 0≤hi.getD len→hi.getD len≤len→len≤cap→(nth T (nth T t).elem).ok=true →
     (execOp a.eval o).run P w=.ok (.value (.slice (if cap=(lo.getD 0).toNat then A else A.map (·.add ((lo.getD 0).toNat * (nth T (nth T t).elem).size))) ((hi.getD len).toNat - (lo.getD 0).toNat) (cap - (lo.getD 0).toNat))) w:=by
    intro w a A len cap hs hxe hle hhe h1 h2 h3 h4 helok
    obtain ⟨te,ue,ze,tfe⟩:=hT.facts helok
    have hb:=run_bounds (P:=P) (w:=w) (isSl:=true) (len:=len) (cap:=cap) h1 h2 h3 h4
    have hrs:=tfe.run_size w
    simp [execOp,ho,Instr.sliceAt,Instr.slice,run_underlying (tf.slice hs),hxe,hle,hhe,hb,hrs]
   have elok:(nth T t).isSl=true→(nth T (nth T t).elem).ok=true:=fun hs=>by
    simp only [Bool.or_eq_true,Bool.and_eq_true] at hsl
    rcases hsl with h5 | h5
    ·exact h5.2
    ·exfalso
     have q1:=tf.isSl; have q2:=tf.isStr
     rw [hs] at q1; rw [h5] at q2
     cases u <;> simp [slOf,strOf] at q1 q2
  ·unfold asliceP at hk
   split at hk
   ·rename_i ver' ep' d hki
    have hh:=bif_true hk; clear hk; obtain ⟨hb,hk⟩:=hh
    obtain ⟨rfl,hcur⟩:=vis_cur hb
    obtain ⟨nd,hk,hndd⟩:=getN_sound hk
    split at hk
    ·rename_i sz xs
     have hh:=bif_true hk; clear hk; obtain ⟨hb2,hbd,hk⟩:=hh
     simp only [Bool.and_eq_true] at hb2
     obtain ⟨hs,hszb⟩:=hb2
     have:=Nat.eq_of_beq_eq_true hszb
     subst this
     refine snd_val hnd hg hk fun ρ' κ' hag g a w G hst hgd=>?_
     have hv:=hx ρ' κ' (hag.op mx) g n a w G hst hgd
     have hle:=hl.val hst hgd (fun y hy=>hag.op (ml y hy))
     have hhe:=hh.val hst hgd (fun y hy=>hag.op (mh y hy))
     obtain ⟨b1,b2,b3⟩:=hbd hgd
     have hki':κ' i=.tree ver ep' d:=(hag.reads i (by simp)).trans hki
     obtain ⟨u0,h1,_,hnode⟩:=hst.fit.node hki' (hndd hgd) rfl
     generalize hxe:a.eval x=q at hv
     cases hv with | own _ _ _ _ _ hh0 hc =>
     have hh1:=hh0
     rw [hdr_cur hcur,h1] at hh1
     injection hh1 with hh1
     subst hh1
     rcases hnode with ⟨rfl,rfl⟩ | ⟨gb,ob,cap,cc,tt,rfl,hcap,hw,hcsz,hxs⟩
     ·have hcut:=cut (w:=w) hs hxe hle hhe b1 (by simpa using b2) (by simpa using b3) (Nat.le_refl _) (elok hs)
      refine ⟨_,hcut,?_⟩
      refine .pre _ _ _ _ _ _ _ _ _ fun hne=>?_
      simp at b3 hne; omega
     ·have hcut:=cut (w:=w) hs hxe hle hhe b1 b2 b3 hcap (elok hs)
      refine ⟨_,hcut,?_⟩
      refine .pre _ _ _ _ _ _ _ _ _ fun hne=>⟨_,_,_,hh0,?_⟩
      rw [if_neg (by omega)]
      rfl
    ·exact hk.elim
   ·exact hk.elim
  ·unfold asliceN at hk
   split at hk
   ·exact hk.elim
   rename_i hpne
   split at hk
   ·rename_i ver' ep' d hki
    have hh:=bif_true hk; clear hk; obtain ⟨hb,hk⟩:=hh
    simp only [Bool.and_eq_true] at hb
    have:=Nat.eq_of_beq_eq_true hb.1
    subst this
    have:=Nat.eq_of_beq_eq_true hb.2
    subst this
    obtain ⟨nd,hk,hndd⟩:=getN_sound hk
    split at hk
    ·rename_i sz xs
     have hh:=bif_true hk; clear hk; obtain ⟨hb2,⟨b1,b2,b3⟩,hk⟩:=hh
     simp only [Bool.and_eq_true] at hb2
     obtain ⟨hs,hszb⟩:=hb2
     have:=Nat.eq_of_beq_eq_true hszb
     subst this
     obtain ⟨hk,_⟩:=setN_sound hk
     have hilt:i<nx:=lt_nx hn ⟨_,_,_,hki⟩
     refine snd_run hnd hg hk (by omega) (fun q hq=>?_) fun ρ' κ' hag g a w G hgm hst hgd=>?_
     ·rcases List.mem_cons.1 hq with rfl | hq
      ·simp
      ·rcases List.mem_cons.1 hq with rfl | hq
       ·show i<nx+1; omega
       ·cases hq
     have he:=hag.reads i (by simp)
     have hfr:κ' nx=.none:=(hag.reads nx (by simp)).trans (hn nx (Nat.le_refl _))
     have hv:=hx ρ' κ' (hag.op mx) g n a w G hst hgd
     have hle:=hl.val hst hgd (fun y hy=>hag.op (ml y hy))
     have hhe:=hh.val hst hgd (fun y hy=>hag.op (mh y hy))
     have hpn:p ≠ []:=fun e=>hpne e
     obtain ⟨G1,g1,g2,_,g4,g7⟩:=hst.split (κ':=updl κ' [(nx,.tree 0 0 (.osl (nth T (nth T t).elem).size xs)),(i,.tree ver (ep+1) (setP d p .any))]) (i:=i) (nx:=nx) (he.trans hki) hfr (hndd rfl) rfl hpn (by simp only [updl]; rw [upd_other _ _ (by omega)]; simp) (by simp [updl]) (fun j h1 h2=>by simp only [updl]; rw [upd_other _ _ h2,upd_other _ _ h1])
     have hx0:hdr G.H i ver ep p=some (a.eval x):=by
      generalize a.eval x=q at hv
      cases hv with | own _ _ _ _ _ hh' hc=>exact hh'
     obtain ⟨A,cap,hA,hcap,G',g8,hvr⟩:=g7.cut (κ2:=updl κ' [(nx,.tree 1 0 (.osl (nth T (nth T t).elem).size ((xs.take (hi.getD xs.length).toNat).drop (lo.getD 0).toNat))),(i,.tree ver (ep+1) (setP d p .any))]) (i:=nx) (by simp only [updl]; rw [upd_same]) b1 b2 b3 (by simp only [updl]; rw [upd_same])
      (fun j hj=>by simp only [updl]; rw [upd_other _ _ hj,upd_other _ _ hj]) (by rw [g4 [],List.append_nil]; exact hx0)
     exact ⟨_,w,G',.inl (cut hs hA hle hhe b1 b2 b3 hcap (elok hs)),g8,hvr⟩
    ·exact hk.elim
   ·exact hk.elim
 ·exact op_sliceO hT hg ho hn hok hsl hx hl hh hk
end
end Go.TM
namespace Go.TM
open Go.RowKit
variable [Glob]
section
variable {P:Program} {C:Org→Prop} {T:List TI} {ops:List Oper} {n:Nat} {o:Oper} {nx:Nat} {ρ:Nat→AV} {κ:Nat→Box} {k:Eff→Nat→Prop} {gd:Bool}
theorem callable_run {f:Nat} (hf:Callable P f) (args:Array Value) (w:World):(callFunc f args).run P w=.ok (.enter f args) w:=by
 obtain ⟨fn,h1,h2,h3⟩:=hf
 have h2':¬ fn.name="runtime.NumGoroutine":=by simpa using h2
 have h3':¬ fn.body=none:=by rintro hb; rw [hb] at h3; cases h3
 simp [callFunc,program,Sem.run,h1,h2',h3']
def CallEv (P:Program) (ops:List Oper) (o:Oper) (ρ:Nat→AV) (κ:Nat→Box) (gd:Bool) (f:Nat) (l:List AV):Prop :=
 (∀c,o.op ≠ .defer c)∧∀ρ' κ' rd bx,Agr ops o ρ ρ' κ κ' rd bx→∀(g:Org) (n:Nat) (a:Act) (w:World) (G:Gh),StM g n ρ' κ' a w G→gd=true→Callable P f →
  ∃vs:List Value,(execOp a.eval o).run P w=.ok (.enter f vs.toArray) w∧CRel G l vs
theorem callEv_func {c:Call} {f:Nat} {l:List AV} (ho:o.op=.call c) (hc:c.callee=.value (.func f)) (hev:EvsOk ρ κ gd c.args.toList l):CallEv P ops o ρ κ gd f l:=by
 refine ⟨fun c=>by rw [ho]; simp,?_⟩
 intro ρ' κ' rd bx hag g n a w G hst hgd hf
 have hrel:=EvsOk.rel hst hgd hev (fun x hx=>hag.op (by rw [ho]; simp only [Op.operands,Call.operands,hc]; exact Array.mem_append.2 (.inr (by simpa using hx))))
 have hargs:(List.map a.eval c.args.toList).toArray=c.args.map a.eval:=by rw [←Array.toList_map,Array.toArray_toList]
 refine ⟨_,?_,hrel⟩
 rw [hargs]
 simp [execOp,ho,resolve,hc,Act.eval,Deferred.ofValue,invoke,callable_run hf]
theorem CRel.append {G:Gh} {l l':List AV} {vs vs':List Value} (h:CRel G l vs) (h':CRel G l' vs'):CRel G (l++l') (vs++vs'):=by
 refine ⟨by simp [h.1,h'.1],fun j d v hd hv=>?_⟩
 rcases Nat.lt_or_ge j l.length with hlt | hge
 ·rw [List.getElem?_append_left hlt] at hd
  rw [List.getElem?_append_left (by rw [←h.1]; exact hlt)] at hv
  exact h.2 j d v hd hv
 ·rw [List.getElem?_append_right hge] at hd
  rw [List.getElem?_append_right (by rw [←h.1]; exact hge),←h.1] at hv
  exact h'.2 _ d v hd hv
theorem callEv_val {c:Call} {f t:Nat} {l:List AV} {av:AV} (ho:o.op=.call c) (hc:c.callee=.value (.tmp t)) (hv:EvOk ρ κ gd (.tmp t) av) (hev:EvsOk ρ κ gd c.args.toList l) {L:List AV}
  (hav:(∃caps,av=.fn f caps∧L=l++caps) ∨ (∃first,av=.bfn f first∧L=first++l) ∨ (∃caps,av=.dv (.fn f caps)∧L=l++dvs caps)):CallEv P ops o ρ κ gd f L:=by
 refine ⟨fun c=>by rw [ho]; simp,?_⟩
 intro ρ' κ' rd bx hag g n a w G hst hgd hf
 have hrel:=EvsOk.rel hst hgd hev (fun x hx=>hag.op (by rw [ho]; simp only [Op.operands,Call.operands,hc]; exact Array.mem_append.2 (.inr (by simpa using hx))))
 have hcal:=hv ρ' κ' (hag.op (by rw [ho]; simp only [Op.operands,Call.operands,hc]; exact Array.mem_append.2 (.inl (by simp)))) g n a w G hst hgd
 have hargs:(List.map a.eval c.args.toList).toArray=c.args.map a.eval:=by rw [←Array.toList_map,Array.toArray_toList]
 generalize hx:a.eval (.tmp t)=x at hcal
 have fin1:∀(vs:List Value),x=.func (.func f) #[] vs.toArray→∀caps,CRel G caps vs→∃us:List Value,(execOp a.eval o).run P w=.ok (.enter f us.toArray) w∧CRel G (l++caps) us:=by
  rintro vs rfl caps hcr
  refine ⟨c.args.toList.map a.eval++vs,?_,hrel.append hcr⟩
  have:(List.map a.eval c.args.toList++vs).toArray=c.args.map a.eval++vs.toArray:=by rw [←hargs]; simp
  rw [this]
  simp [execOp,ho,resolve,hc,hx,Deferred.ofValue,invoke,callable_run hf]
 rcases hav with ⟨caps,rfl,rfl⟩ | ⟨first,rfl,rfl⟩ | ⟨caps,rfl,rfl⟩
 ·cases hcal with | fn _ _ vs hl hr=>exact fin1 vs rfl caps ⟨hl,hr⟩
 ·cases hcal with
  | bfn _ _ vs hl hr =>
   refine ⟨vs++c.args.toList.map a.eval,?_,CRel.append ⟨hl,hr⟩ hrel⟩
   have:(vs++List.map a.eval c.args.toList).toArray=vs.toArray++c.args.map a.eval:=by rw [←hargs]; simp
   rw [this]
   simp [execOp,ho,resolve,hc,hx,Deferred.ofValue,invoke,callable_run hf]
 ·cases hcal with | dv hd=>cases hd with | fn _ _ vs hl hr=>exact fin1 vs rfl _ (vrels_dvs ⟨hl,hr⟩)
theorem wpIn_call {F:Fence} (hF:Wide F) {f:Nat} {a:Act} {w:World} {args:Array Value} {K:Act→World→Prop} (hd:∀c,o.op ≠ .defer c) (hrun:(execOp a.eval o).run P w=.ok (.enter f args) w)
  (hc:Calls P f args w fun e w'=>∃v,e=.returned v∧K (a.put o.dst v) w'):o.wpIn F 0 P a w K (fun _ _ _=>False):=by
 refine ⟨fun f _=>hF.fn f,?_⟩
 rw [Oper.semAt_plain F _ _ hd,hrun,Oper.uponIn_enter]
 refine ⟨fun h=>(by rw [hF.depth] at h; cases h),hF.calls.2 (hc.mono ?_)⟩
 rintro e w' ⟨v,rfl,hk⟩
 exact hk
def BOk (κ:Nat→Box) (gd:Bool) (v:AV) (d:DV) (ids:List Nat):Prop :=
 gd=true→∀κ' G w x,(∀i,i∈ids→κ' i=κ i)→Fit G w κ'→VRel G v x→∀M',Mem.Le G.M M'→(∀i,i∈ids→∀b,Own G i (κ' i) b→M' b=w.heap[b]?)→DRel M' d x
def BsOk (κ:Nat→Box) (gd:Bool) (l:List AV) (ds:List DV) (ids:List Nat):Prop :=
 gd=true→∀κ' G w xs,(∀i,i∈ids→κ' i=κ i)→Fit G w κ'→CRel G l xs→∀M',Mem.Le G.M M'→(∀i,i∈ids→∀b,Own G i (κ' i) b→M' b=w.heap[b]?)→DRels M' ds xs
theorem bCell0_sound {v:AV} {q:DV→List Nat→Prop} (h:bCell0 κ gd v q):∃d ids,q d ids∧BOk κ gd v d ids:=by
 unfold bCell0 at h
 split at h
 ·rename_i d
  refine ⟨d,[],h,fun _ κ' G w x _ _ hv M' hle _=>?_⟩
  cases hv with | dv hv=>exact hv.mono hle
 ·rename_i i ver ep p
  split at h
  ·rename_i ver' ep' d hk
   cases hb:Nat.beq ver ver' && (emp p || Nat.beq ep ep') with
   | false=>rw [hb] at h; exact h.elim
   | true =>
    rw [hb] at h
    simp only [cond_true] at h
    obtain ⟨rfl,hcur⟩:=vis_cur hb
    obtain ⟨nd,h,hnd⟩:=getN_sound h
    cases ho:nd.owning with
    | false=>rw [ho] at h; exact h.elim
    | true =>
     rw [ho] at h
     refine ⟨fzD nd,[i],h,fun hgd κ' G w x hag hf hv M' hle hM=>?_⟩
     have he:=hag i (by simp)
     have hbx:=hf.box i
     rw [he,hk] at hbx
     cases hv with | own _ _ _ _ _ hh hc =>
     rw [hdr_cur hcur] at hh
     exact hbx.1.frozen hle (fun b hb=>hM i (by simp) b (by rw [he,hk]; exact hb)) (SizeOf.sizeOf nd+1) p nd x (by omega) (hnd hgd) ho hh
  ·exact h.elim
 ·refine ⟨_,[],h,fun _ κ' G w x _ _ hv M' hle _=>?_⟩
  cases hv with | fn _ _ vs hl hr =>
  have:vs=[]:=by simpa using hl.symm
  subst this
  exact .fn _ [] [] rfl (by simp)
 ·exact ⟨_,[],h.2,fun hgd=>by rw [h.1] at hgd; cases hgd⟩
theorem BsOk.cons {v:AV} {l:List AV} {d:DV} {ds:List DV} {i j:List Nat} (h:BOk κ gd v d i) (h':BsOk κ gd l ds j):BsOk κ gd (v::l) (d::ds) (i++j):=by
 intro hgd κ' G w xs hag hf hr M' hle hM
 match xs,hr with
 | [],hr=>have:=hr.1; simp at this
 | x::xs,hr =>
  refine .cons (h hgd κ' G w x (fun q hq=>hag q (by simp [hq])) hf (hr.2 0 v x rfl rfl) M' hle fun q hq=>hM q (by simp [hq])) ?_
  exact h' hgd κ' G w xs (fun q hq=>hag q (by simp [hq])) hf ⟨by simpa using hr.1,fun q e y he hy=>hr.2 (q+1) e y (by simpa using he) (by simpa using hy)⟩ M' hle fun q hq=>hM q (by simp [hq])
theorem BsOk.nil:BsOk κ gd [] [] []:=by
 intro hgd κ' G w xs hag hf hr M' hle hM
 have:xs=[]:=by have:=hr.1; simpa using this.symm
 subst this; exact .nil _
theorem bCell_sound {v:AV} {q:DV→List Nat→Prop} (h:bCell κ gd v q):∃d ids,q d ids∧BOk κ gd v d ids:=by
 obtain ⟨d,ids,h1,h2⟩:=bCell0_sound (v:=dn v) h
 exact ⟨d,ids,h1,fun hgd κ' G w x hag hf hv M' hle hM=>h2 hgd κ' G w x hag hf (dn_ok hv) M' hle hM⟩
theorem bCells_sound:∀{l:List AV} {q:List DV→List Nat→Prop},bCells κ gd l q→∃ds ids,q ds ids∧BsOk κ gd l ds ids
 | [],q,h=>⟨[],[],h,.nil⟩
 | v::l,q,h=>by
  obtain ⟨d,i,h,h1⟩:=bCell_sound h
  obtain ⟨ds,j,h,h2⟩:=bCells_sound h
  exact ⟨_,_,h,.cons h1 h2⟩
theorem bArg_sound {v:AV} {q:DV→List Nat→Prop} (h:bArg κ gd v q):∃d ids,q d ids∧BOk κ gd v d ids:=by
 unfold bArg at h
 split at h
 ·rename_i l
  cases hc:allCell l with
  | false=>rw [hc] at h; exact h.elim
  | true =>
   rw [hc] at h
   obtain ⟨ds,ids,h,h1⟩:=bCells_sound h
   refine ⟨_,_,h,fun hgd κ' G w x hag hf hv M' hle hM=>?_⟩
   cases hv with | agg _ vs hl hr =>
   have h2:=h1 hgd κ' G w vs hag hf ⟨hl,hr⟩ M' hle hM
   exact .agg ds vs h2.1 (toDs_cells (G':={ G with M:=M' }) h2 (CRel.oneCell ⟨hl,hr⟩ hc)) h2.2
 ·exact bCell_sound h
theorem bArgs_sound:∀{l:List AV} {q:List DV→List Nat→Prop},bArgs κ gd l q→∃ds ids,q ds ids∧BsOk κ gd l ds ids
 | [],q,h=>⟨[],[],h,.nil⟩
 | v::l,q,h=>by
  obtain ⟨d,i,h,h1⟩:=bArg_sound h
  obtain ⟨ds,j,h,h2⟩:=bArgs_sound h
  exact ⟨_,_,h,.cons h1 h2⟩
theorem snd_call {av:AV} {rd:List Nat} (hg:gval ρ ops o.guard=some gd) (hk:retv n o gd nx k av rd)
  (h:∀ρ' κ',Agr ops o ρ ρ' κ κ' rd []→∀(F:Fence),Wide F→∀(g:Org) (a:Act) (w:World) (G:Gh),StM g n ρ' κ' a w G→gd=true→∀(K:Act→World→Prop),
   (∀v w' G',StM g n ρ' κ' a w' G'→VRel G' av v→K (a.put o.dst v) w')→o.wpIn F 0 P a w K (fun _ _ _=>False)):Good P C ops n o nx ρ κ k:=by
 unfold retv at hk
 split at hk
 ·rename_i hd' hn
  refine ⟨_,_,hk,Nat.le_refl _,by simp,fun F hF ρ' κ' hag g a w hgm ⟨G,hst⟩=>?_⟩
  have hgt:gd=true:=by rw [hn] at hg; injection hg with hg; exact hg.symm
  unfold Runs
  rw [wanted_gval hg hag.slots hst,hgt,if_pos rfl]
  exact h ρ' κ' hag F hF g a w G hst hgt _ fun v w' G' h1 h2=>⟨G',by rw [hd']; exact h1⟩
 ·exact hk.elim
 ·rename_i d hd' hn
  cases hlt:Nat.blt d n with
  | false=>rw [hlt] at hk; exact hk.elim
  | true =>
   rw [hlt] at hk
   have hlt':d<n:=by rw [Nat.blt_eq] at hlt; exact hlt
   refine ⟨_,_,hk,Nat.le_refl _,by simp,fun F hF ρ' κ' hag g a w hgm ⟨G,hst⟩=>?_⟩
   have hgt:gd=true:=by rw [hn] at hg; injection hg with hg; exact hg.symm
   unfold Runs
   rw [wanted_gval hg hag.slots hst,hgt,if_pos rfl]
   exact h ρ' κ' hag F hF g a w G hst hgt _ fun v w' G' h1 h2=>⟨G',by rw [hd']; exact h1.put hlt' h2⟩
 ·rename_i d j hd' hn
  cases hlt:Nat.blt d n with
  | false=>rw [hlt] at hk; exact hk.elim
  | true =>
   rw [hlt] at hk
   have hlt':d<n:=by rw [Nat.blt_eq] at hlt; exact hlt
   refine ⟨_,_,hk,Nat.le_refl _,by simp,fun F hF ρ' κ' hag g a w hgm ⟨G,hst⟩=>?_⟩
   unfold Runs
   rw [wanted_gval hg hag.slots hst]
   cases gd with
   | true =>
    rw [if_pos rfl]
    exact h ρ' κ' hag F hF g a w G hst rfl _ fun v w' G' h1 h2=>⟨G',by rw [hd']; exact h1.put hlt' (.opt true av v (fun _=>h2) (by simp))⟩
   | false =>
    simp only [Bool.false_eq_true,if_false,hd']
    exact ⟨G,hst.put hlt' (.opt false av undef (by simp) (fun _=>rfl))⟩
theorem CallOk.callable {f:Nat} {ds rs:List DV} (h:CallOk P f ds rs):Callable P f:=by obtain ⟨_,_,h,_⟩:=h; exact h
open Classical in
noncomputable def memPlus (G:Gh) (w:World) (κ:Nat→Box) (ids:List Nat):Mem:=fun b=>if ∃i,i∈ids∧Own G i (κ i) b then w.heap[b]? else G.M b
theorem memPlus_in {G:Gh} {w:World} {κ:Nat→Box} {ids:List Nat} (hf:Fit G w κ):(memPlus G w κ ids).In w:=by
 intro b x hb
 unfold memPlus at hb
 split at hb
 ·exact hb
 ·exact hf.sub b x hb
theorem memPlus_le {G:Gh} {w:World} {κ:Nat→Box} {ids:List Nat} (hf:Fit G w κ):Mem.Le G.M (memPlus G w κ ids):=by
 intro b x hb
 unfold memPlus
 split
 ·rename_i h; obtain ⟨i,_,ho⟩:=h; rw [hf.own i b ho] at hb; cases hb
 ·exact hb
theorem memPlus_own {G:Gh} {w:World} {κ:Nat→Box} {ids:List Nat} {i b:Nat} (hi:i∈ids) (ho:Own G i (κ i) b):memPlus G w κ ids b=w.heap[b]?:=by
 unfold memPlus
 rw [if_pos ⟨i,hi,ho⟩]
theorem op_acall {f:Nat} {l:List AV} (hn:∀i,nx≤i→κ i=.none) (hg:gval ρ ops o.guard=some gd) (hev:CallEv P ops o ρ κ gd f l) (h:acall P n o nx κ gd k f l):Good P C ops n o nx ρ κ k:=by
 have hbor:(bArgs κ gd l fun ds ids=>∃rs,(gd=true→CallOk P f ds rs)∧flats rs=true∧retv n o gd nx k (resAV rs) ids)→Good P C ops n o nx ρ κ k:=by
  intro h
  obtain ⟨ds,ids,⟨rs,hc,hfl,hk⟩,hb⟩:=bArgs_sound h
  refine snd_call hg hk fun ρ' κ' hag F hF g a w G hst hgd K hK=>?_
  obtain ⟨es,hle,hcb,hsp⟩:=hc hgd
  obtain ⟨vs,hrun,hrel⟩:=hev.2 ρ' κ' _ _ hag g n a w G hst hgd hcb
  have hd:=hle.rels (hb hgd κ' G w vs hag.reads hst.fit hrel (memPlus G w κ' ids) (memPlus_le hst.fit) (fun i hi b ho=>memPlus_own hi ho))
  refine wpIn_call hF hev.1 hrun ((hsp w _ vs (memPlus_in hst.fit) ((hst.glob.mono hst.mem).mono (memPlus_le hst.fit)) hd).mono ?_)
  rintro e w' ⟨v,M',rfl,hbel,hle',hin,hlow,hres⟩
  refine ⟨v,rfl,?_⟩
  have hM:∀b,(if b<w.heap.size then G.M b else M' b)=(fun b=>if b<w.heap.size then G.M b else M' b) b:=fun _=>rfl
  obtain ⟨h1,h2⟩:=hst.grown (w':=w') (M':=fun b=>if b<w.heap.size then G.M b else M' b) hbel
   (fun b x hx=>by
    have hlt:b<w.heap.size:=(Array.getElem?_eq_some_iff.1 (hst.fit.sub b x hx)).1
    simp only [if_pos hlt]; exact hx)
   (fun b x hx=>by
    by_cases hlt:b<w.heap.size
    ·simp only [if_pos hlt] at hx; rw [hbel.block b hlt]; exact hst.fit.sub b x hx
    ·simp only [if_neg hlt] at hx; exact hin b x hx)
   (fun b hb=>by simp only [if_pos hb])
  exact hK v w' _ h1 (res_rel (flat_res hfl hres))
 have hclosed:∀{ds:List DV} {rs:List DV} {ids:List Nat} {κ':Nat→Box} {g:Org} {a:Act} {w:World} {G:Gh} {F:Fence} {ρ':Nat→AV} {vs:List Value} {K:Act→World→Prop},Wide F→CallOk P f ds rs→StM g n ρ' κ' a w G→DRels G.M ds vs→(execOp a.eval o).run P w=.ok (.enter f vs.toArray) w →
   (∀v w' G',StM g n ρ' κ' a w' G'→VRel G' (resAV rs) v→K (a.put o.dst v) w')→o.wpIn F 0 P a w K (fun _ _ _=>False):=by
  intro ds rs ids κ' g a w G F ρ' vs K hF hc hst hd hrun hK
  obtain ⟨es,hle,hcb,hsp⟩:=hc
  refine wpIn_call hF hev.1 hrun ((hsp w _ vs hst.fit.sub (hst.glob.mono hst.mem) (hle.rels hd)).mono ?_)
  rintro e w' ⟨v,M',rfl,hbel,hle',hin,hlow,hres⟩
  refine ⟨v,rfl,?_⟩
  obtain ⟨h1,h2⟩:=hst.grown hbel hle' hin hlow
  exact hK v w' _ h1 (res_rel hres)
 unfold acall at h
 split at h
 ·rename_i ds hds
  obtain ⟨rs,hc,hk⟩:=h
  refine snd_call hg hk fun ρ' κ' hag F hF g a w G hst hgd K hK=>?_
  obtain ⟨vs,hrun,hrel⟩:=hev.2 ρ' κ' _ _ hag g n a w G hst hgd (hc hgd).callable
  exact hclosed (ids:=[]) hF (hc hgd) hst (toArgs_sound (κ:=κ) (κ':=κ') (w:=w) (all:=[]) (by simp) (Gh.Le.refl G) (by simpa [frz,updl] using hst.fit) hds (by simp) hrel) hrun hK
 ·rename_i ds ids hne hds
  rcases h with h | ⟨rs,hc,hk⟩
  ·exact hbor h
  ·refine snd_box hev.1 hg hk (Nat.le_refl _) (fun p hp=>frz_lt hn hp) fun ρ' κ' hag F hF g a w G hgm hst hgd K hK=>?_
   obtain ⟨vs,hrun,hrel⟩:=hev.2 ρ' κ' _ _ hag g n a w G hst hgd (hc hgd).callable
   obtain ⟨G1,f1,f2,f3,f4,f5⟩:=hst.freezes (κ:=κ) ids hag.reads
   exact hclosed (ids:=[]) hF (hc hgd) f5 (toArgs_sound hag.reads f1 f5.fit hds (fun i hi=>hi) hrel) hrun hK
 ·exact hbor h
end
end Go.TM
