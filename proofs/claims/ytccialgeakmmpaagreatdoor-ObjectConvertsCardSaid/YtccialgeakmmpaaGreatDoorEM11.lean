import Derived.Test.YtccialgeakmmpaaGreatDoorEM10
import Derived.Orders
set_option linter.unusedVariables false
set_option linter.unusedSimpArgs false
set_option linter.unusedSectionVars false
namespace Go.TM
open Go.RowKit
variable [Glob]
def hardOp:Op→Bool
 | .buildSlice _ _ _=>true
 | .call c=>match c.callee with
  | .builtin .append=>true
  | _=>false
 | _=>false
def noGuard (o:Oper):Oper:={ o with guard:=none }
def aopH (P:Program) (T:List TI) (ops:List Oper) (n:Nat) (o:Oper) (nx:Nat) (ρ:Nat→AV) (κ:Nat→Box) (k:Eff→Nat→Prop):Prop :=
 match o.guard with
 | none=>aop P T ops n o nx ρ κ k
 | some _=>bif hardOp o.op then aop P T ops n o nx ρ κ k ∨ (match gval ρ ops o.guard with
   | some g=>(g=false∧retv n o g nx k .any []) ∨ (g=true∧aop P T ops n (noGuard o) nx ρ κ k)
   | none=>False)
  else aop P T ops n o nx ρ κ k
def arun (P:Program) (T:List TI) (ops:List Oper) (n:Nat):List Oper→Nat→Env→Boxes→(Nat→Env→Boxes→Prop)→Prop
 | [],nx,env,K,k=>k nx env K
 | o::rest,nx,env,K,k=>aopH P T ops n o nx (look env) (lookB K) fun eff nx'=>contE eff.dst env fun env'=>contB eff.box K fun K'=>arun P T ops n rest nx' env' K' k
structure Rec where
 rows:List Nat
 eff:Eff
def dynCall:Op→Bool
 | .call c=>match c.callee with
  | .value (.tmp _)=>true
  | _=>false
 | _=>false
def keysB:List (Nat × Box)→List Nat
 | []=>[]
 | p::r=>p.1::keysB r
def trimB (κ:Nat→Box) (rd:List Nat):List (Nat × Box)→(List (Nat × Box)→Prop)→Prop
 | [],k=>k []
 | (i,b)::r,k=>((memN i rd && !memN i (keysB r))=true∧κ i=b∧trimB κ rd r k) ∨ trimB κ rd r fun r=>k ((i,b)::r)
def trimE (ops:List Oper) (o:Oper) (κ:Nat→Box) (eff:Eff) (k:Eff→Prop):Prop :=
 bif dynCall o.op && Nat.ble 16 ops.length then k eff ∨ trimB κ eff.reads eff.box fun bx=>k { eff with box:=bx } else k eff
def adraw (P:Program) (T:List TI) (ops:List Oper) (n:Nat):List Oper→Nat→Env→Boxes→List Rec→(Nat→Env→Boxes→List Rec→Prop)→Prop
 | [],nx,env,K,acc,k=>k nx env K acc
 | o::rest,nx,env,K,acc,k=>aopH P T ops n o nx (look env) (lookB K) fun eff nx'=>trimE ops o (lookB K) eff fun eff=>contE eff.dst env fun env'=>contB eff.box K fun K'=>adraw P T ops n rest nx' env' K' (acc++[⟨ridk (look env) (lookB K) o,eff⟩]) k
def disj:List Nat→List Nat→Bool
 | [],_=>true
 | x::r,l=>!memN x l && disj r l
def keysE:List (Nat × AV)→List Nat
 | []=>[]
 | p::r=>p.1::keysE r
def apartB (ops:List Oper) (x y:Rec) (oy:Oper):Bool :=
 disj (keysE x.eff.dst) (oy.looksAt ops.toArray) && disj (keysE x.eff.dst) (keysE y.eff.dst) &&
 disj (keysB x.eff.box) y.rows && disj (keysB x.eff.box) y.eff.reads && disj (keysB x.eff.box) (keysB y.eff.box)
def deps (o:Oper):List Nat:=o.after.toList.filterMap fun e=>bif Region.binds .any e then some e.on else none
def reachB (ops:List Oper):Nat→Nat→Nat→Bool
 | 0,_,_=>false
 | f+1,i,j=>match ops[j]? with
  | some o=>(deps o).any fun d=>Nat.beq d i || reachB ops f i d
  | none=>false
def edgesB:Nat→List Oper→Bool
 | _,[]=>true
 | i,o::r=>(deps o).all (fun d=>Nat.blt d i) && edgesB (i+1) r
def indepAt (ops:List Oper) (rs:List Rec) (j:Nat) (y:Rec) (oy:Oper):Nat→List Rec→List Oper→Bool
 | i,x::xr,ox::or=>(bif Nat.blt i j then reachB ops ops.length i j || (apartB ops x y oy && apartB ops y x ox) else true) && indepAt ops rs j y oy (i+1) xr or
 | _,_,_=>true
def indepFrom (ops:List Oper) (rs:List Rec):Nat→List Rec→List Oper→Bool
 | j,y::yr,oy::or=>indepAt ops rs j y oy 0 rs ops && indepFrom ops rs (j+1) yr or
 | _,_,_=>true
def indepB (ops:List Oper) (rs:List Rec):Bool:=edgesB 0 ops && indepFrom ops rs 0 rs ops
def StL (g:Org) (n nx:Nat) (env:Env) (K:Boxes) (a:Act) (w:World):Prop:=St g n (look env) (lookB K) a w∧g.m≤nx∧∀i,nx≤i→lookB K i=.none
theorem wpIn_imp {F:Fence} {m:Nat} {P:Program} {o:Oper} {a:Act} {w:World} {K K':Act→World→Prop} {Q:Exit→Act→World→Prop} (h:∀a w,K a w→K' a w) (hh:o.wpIn F m P a w K (fun _ _ _=>False)):o.wpIn F m P a w K' Q:=by
 unfold Oper.wpIn at *
 refine ⟨hh.1,?_⟩
 have hh:=hh.2
 generalize (o.semAt F.round a.eval).run P w=r at *
 cases r with
 | ok x w' =>
  cases x <;> simp only [Oper.uponIn] at hh ⊢ <;>
   first
    | exact h _ _ hh
    | exact ⟨hh.1,CallsIn.mono hh.2 (fun e w'' he=>by cases e <;> first | exact h _ _ he | exact he.elim | (obtain ⟨_,_,hf⟩:=he; exact hf.elim))⟩
    | exact ⟨hh.1,RowsIn.mono hh.2 (fun _ _ he=>h _ _ he)⟩
    | exact ⟨hh.1,RoundIn.mono hh.2 (fun e w'' he=>by cases e <;> first | exact h _ _ he | exact he.elim | (obtain ⟨_,_,hf⟩:=he; exact hf.elim))⟩
    | exact hh.elim
 | halt x w'=>cases x <;> simp only [Oper.uponIn] at hh ⊢ <;> exact hh.elim
def CallsSnd (P:Program) (C:Org→Prop):Prop:=∀(ops:List Oper) (n:Nat) (o:Oper) (nx:Nat) (ρ:Nat→AV) (κ:Nat→Box) (k:Eff→Nat→Prop),(∀i,nx≤i→κ i=.none)→CallSnd P C ops n o nx ρ κ k
section
variable {P:Program} {C:Org→Prop} {T:List TI} {ops:List Oper} {n:Nat} {g:Org}
theorem good_noGuard {o:Oper} {nx:Nat} {ρ:Nat→AV} {κ:Nat→Box} {k:Eff→Nat→Prop} (hg:gval ρ ops o.guard=some true) (h:Good P C ops n (noGuard o) nx ρ κ k):Good P C ops n o nx ρ κ k:=by
 obtain ⟨eff,nx',h1,h2,h3,h4⟩:=h
 refine ⟨eff,nx',h1,h2,h3,fun F hF ρ' κ' hag g a w hgm hst=>?_⟩
 have hs:∀t,t∈(noGuard o).looksAt ops.toArray→ρ' t=ρ t:=fun t ht=>hag.slots t (by
  unfold Oper.looksAt noGuard at ht
  simp only [List.append_nil] at ht
  unfold Oper.looksAt
  exact List.mem_append_left _ ht)
 have hr:=h4 F hF ρ' κ' ⟨hs,hag.rows,hag.reads,hag.boxes⟩ g a w hgm hst
 obtain ⟨G,hst'⟩:=hst
 unfold Runs at hr ⊢
 rw [if_pos (wanted_gval hg hag.slots hst')]
 have hw:Region.wanted (noGuard o) (yielded ops.toArray a.tmps)=true:=rfl
 rw [if_pos hw] at hr
 exact hr
theorem aopH_sound (hT:TOk P T) {o:Oper} {nx:Nat} {ρ:Nat→AV} {κ:Nat→Box} {k:Eff→Nat→Prop} (hn:∀i,nx≤i→κ i=.none) (hR:CallsSnd P C) (h:aopH P T ops n o nx ρ κ k):Good P C ops n o nx ρ κ k:=by
 have old:aop P T ops n o nx ρ κ k→Good P C ops n o nx ρ κ k:=aop_sound hT hn (hR _ _ _ _ _ _ _ hn)
 unfold aopH at h
 split at h
 ·exact old h
 ·cases hh:hardOp o.op with
  | false=>rw [hh] at h; exact old h
  | true =>
   rw [hh] at h
   rcases h with h | h
   ·exact old h
   ·split at h
    ·rename_i g hg
     rcases h with ⟨hf,h⟩ | ⟨hf,h⟩
     ·subst hf
      refine snd_val (fun c hc=>?_) hg h fun _ _ _ _ _ _ _ _ hgd=>by cases hgd
      rw [hc] at hh; simp [hardOp] at hh
     ·subst hf
      exact good_noGuard hg (aop_sound hT hn (hR _ _ _ _ _ _ _ hn) h)
    ·exact h.elim
theorem none_after {nx nx':Nat} {K:Boxes} {bx:List (Nat × Box)} (hn:∀i,nx≤i→lookB K i=.none) (hle:nx≤nx') (hb:∀p,p∈bx→p.1<nx'):∀i,nx'≤i→lookB (addB bx K) i=.none:=by
 intro i hi
 rw [lookB_addB]
 have key:∀(l:List (Nat × Box)),(∀p,p∈l→p.1<nx')→updl (lookB K) l i=.none:=by
  intro l
  induction l with
  | nil=>intro _; exact hn i (by omega)
  | cons p r ih =>
   intro hl
   obtain ⟨j,b⟩:=p
   have:=hl (j,b) (by simp)
   simp only [updl]
   rw [upd_other _ _ (by simp at this; omega)]
   exact ih fun p hp=>hl p (by simp [hp])
 exact key bx hb
theorem runs_list {o:Oper} {rest:List Oper} {a:Act} {w:World} {K:Act→World→Prop} {Q:Exit→Act→World→Prop} {F:Fence} (hF:Wide F) (h:Runs P F ops.toArray o a w K) (hk:∀a w,K a w→wpListIn F 0 P ops.toArray Q rest a w):wpListIn F 0 P ops.toArray Q (o::rest) a w:=by
 unfold Runs at h
 simp only [wpListIn]
 split at h
 ·rename_i hw; rw [if_pos hw]; exact wpIn_imp hk h
 ·rename_i hw; rw [if_neg hw]; exact ⟨fun f _=>hF.fn f,hk _ _ h⟩
theorem arun_sound (hT:TOk P T) (hR:CallsSnd P C) (hCg:C g) {F:Fence} (hF:Wide F) {Q:Exit→Act→World→Prop} {k:Nat→Env→Boxes→Prop} (hQ:∀nx env K a w,k nx env K→StL g n nx env K a w→Q .normal a w) :
  ∀(rest:List Oper) (nx:Nat) (env:Env) (K:Boxes) (a:Act) (w:World),arun P T ops n rest nx env K k→StL g n nx env K a w→wpListIn F 0 P ops.toArray Q rest a w
 | [],nx,env,K,a,w,h,hs=>hQ nx env K a w h hs
 | o::rest,nx,env,K,a,w,h,⟨hs,hgm,hn⟩=>by
  obtain ⟨eff,nx',hk,hle,hb,hsnd⟩:=aopH_sound hT hn hR h
  rw [contE_eq,contB_eq] at hk
  refine runs_list hF (hsnd F hF (look env) (lookB K) ⟨fun _ _=>rfl,fun _ _=>rfl,fun _ _=>rfl,fun _ _ _=>rfl⟩ g a w ⟨hgm,hCg⟩ hs) fun a' w' hs'=>?_
  refine arun_sound hT hR hCg hF hQ rest nx' _ _ a' w' hk ⟨?_,Nat.le_trans hgm hle,none_after hn hle hb⟩
  rw [look_addE,lookB_addB]
  exact hs'
def acc {γ:Type _} (f:Nat→γ) (wr:Nat→List (Nat × γ)) (E:Nat→Bool):Nat→Nat→γ
 | 0=>f
 | m+1=>if E m then updl (acc f wr E m) (wr m) else acc f wr E m
def keys {γ:Type _} (l:List (Nat × γ)):List Nat:=l.map (·.1)
theorem updl_notin {γ:Type _} (f:Nat→γ):∀{l:List (Nat × γ)} {t:Nat},t ∉ keys l→updl f l t=f t
 | [],t,_=>rfl
 | (i,x)::r,t,h=>by
  simp only [keys,List.map_cons,List.mem_cons,not_or] at h
  simp only [updl]
  rw [upd_other _ _ h.1]
  exact updl_notin f h.2
theorem updl_in {γ:Type _} (f f':Nat→γ):∀{l:List (Nat × γ)} {t:Nat},t∈keys l→updl f l t=updl f' l t
 | [],t,h=>by simp [keys] at h
 | (i,x)::r,t,h=>by
  simp only [updl]
  by_cases e:t=i
  ·subst e; simp
  ·rw [upd_other _ _ e,upd_other _ _ e]
   simp only [keys,List.map_cons,List.mem_cons,e,false_or] at h
   exact updl_in f f' h
section
variable {γ:Type _} {f:Nat→γ} {wr:Nat→List (Nat × γ)} {E:Nat→Bool}
theorem acc_low {t:Nat}:∀{j:Nat},(∀i,i<j→E i=false→t ∉ keys (wr i))→acc f wr E j t=acc f wr (fun _=>true) j t
 | 0,_=>rfl
 | j+1,h=>by
  have ih:=acc_low (t:=t) (j:=j) fun i hi=>h i (by omega)
  simp only [acc,if_true]
  cases he:E j with
  | true =>
   simp only [if_true]
   by_cases hk:t∈keys (wr j)
   ·exact updl_in _ _ hk
   ·rw [updl_notin _ hk,updl_notin _ hk,ih]
  | false =>
   simp only [Bool.false_eq_true,if_false]
   rw [updl_notin _ (h j (by omega) he)]
   exact ih
theorem acc_high {t j:Nat}:∀{m:Nat},(∀i,j≤i→i<j+m→E i=true→t ∉ keys (wr i))→acc f wr E (j+m) t=acc f wr E j t
 | 0,_=>rfl
 | m+1,h=>by
  have ih:=acc_high (t:=t) (j:=j) (m:=m) fun i h1 h2=>h i h1 (by omega)
  show acc f wr E (j+m+1) t=_
  simp only [acc]
  cases he:E (j+m) with
  | true=>simp only [if_true]; rw [updl_notin _ (h _ (by omega) (by omega) he)]; exact ih
  | false=>simp only [Bool.false_eq_true,if_false]; exact ih
theorem acc_read {t j len:Nat} (hj:j≤len) (h1:∀i,i<j→E i=false→t ∉ keys (wr i)) (h2:∀i,j≤i→i<len→E i=true→t ∉ keys (wr i)):acc f wr E len t=acc f wr (fun _=>true) j t:=by
 obtain ⟨m,rfl⟩:∃m,len=j+m:=⟨len - j,by omega⟩
 rw [acc_high h2,acc_low h1]
def setE (E:Nat→Bool) (j:Nat):Nat→Bool:=fun i=>if i=j then true else E i
theorem acc_set {j:Nat} (hj:E j=false):∀{len:Nat},j<len→(∀i,j<i→i<len→E i=true→∀t,t∈keys (wr j)→t ∉ keys (wr i))→acc f wr (setE E j) len=updl (acc f wr E len) (wr j)
 | 0,h,_=>by omega
 | len+1,h,hd=>by
  rcases Nat.lt_or_ge j len with hlt | hge
  ·have ih:=acc_set hj hlt fun i h1 h2=>hd i h1 (by omega)
   have hne:len ≠ j:=by omega
   simp only [acc,setE,if_neg hne]
   cases he:E len with
   | false=>simp only [Bool.false_eq_true,if_false]; exact ih
   | true =>
    simp only [if_true]
    show updl (acc f wr (setE E j) len) (wr len)=_
    rw [ih]
    funext t
    by_cases h1:t∈keys (wr j)
    ·have h2:=hd len hlt (by omega) he t h1
     rw [updl_notin _ h2]
     exact updl_in _ _ h1
    ·rw [updl_notin (updl (acc f wr E len) (wr len)) h1]
     by_cases h2:t∈keys (wr len)
     ·exact updl_in _ _ h2
     ·rw [updl_notin _ h2,updl_notin _ h2,updl_notin _ h1]
  ·have:j=len:=by omega
   subst this
   have low:∀m,m≤j→acc f wr (setE E j) m=acc f wr E m:=by
    intro m
    induction m with
    | zero=>intro _; rfl
    | succ m ih =>
     intro hm
     simp only [acc,setE,if_neg (show m ≠ j by omega)]
     rw [ih (by omega)]
   simp only [acc,hj,Bool.false_eq_true,if_false]
   simp only [setE,if_true]
   rw [low j (Nat.le_refl _)]
end
theorem Snd.lo {lo lo':Nat} {o:Oper} {ρ:Nat→AV} {κ:Nat→Box} {eff:Eff} (h:Snd P C ops n lo' o ρ κ eff) (hl:lo≤lo'):Snd P C ops n lo o ρ κ eff :=
 fun F hF ρ' κ' hag g a w hg hs=>h F hF ρ' κ' hag g a w ⟨Nat.le_trans hg.1 hl,hg.2⟩ hs
theorem acc_same {γ:Type _} (f:Nat→γ) (wr wr':Nat→List (Nat × γ)) (m:Nat):(∀i,i<m→wr' i=wr i)→acc f wr' (fun _=>true) m=acc f wr (fun _=>true) m:=by
 induction m with
 | zero=>intro _; rfl
 | succ m ih=>intro hh; simp only [acc,if_true]; rw [ih fun i hi=>hh i (by omega),hh m (by omega)]
theorem trimB_spec {κ:Nat→Box} {rd:List Nat}:∀{bx:List (Nat × Box)} {k:List (Nat × Box)→Prop},trimB κ rd bx k→∃bx',k bx'∧(∀p,p∈bx'→p∈bx)∧(∀p,p∈bx→p∈bx' ∨ p.1∈rd)∧∀κ':Nat→Box,(∀i,i∈rd→κ' i=κ i)→updl κ' bx'=updl κ' bx
 | [],k,h=>⟨[],h,fun _ h=>h,fun _ h=>.inl h,fun _ _=>rfl⟩
 | (i,b)::r,k,h=>by
  rcases h with ⟨h1,h2,h⟩ | h
  ·obtain ⟨bx',hk,ha,hb,hc⟩:=trimB_spec h
   simp only [Bool.and_eq_true,Bool.not_eq_true'] at h1
   refine ⟨bx',hk,fun p hp=>List.mem_cons_of_mem _ (ha p hp),fun p hp=>?_,fun κ' hκ=>?_⟩
   ·rcases List.mem_cons.1 hp with rfl | hp
    ·exact .inr (memN_true h1.1)
    ·exact hb p hp
   ·rw [hc κ' hκ]
    funext j
    by_cases e:j=i
    ·subst e
     have hkb:∀(l:List (Nat × Box)),keysB l=keys l:=fun l=>by
      induction l with
      | nil=>rfl
      | cons p r ih=>simp [keysB,keys,ih]
     rw [updl_notin _ (by rw [←hkb]; exact memN_false h1.2)]
     simp only [updl,upd_same]
     rw [hκ _ (memN_true h1.1),h2]
    ·simp only [updl]
     rw [upd_other _ _ e]
  ·obtain ⟨bx',hk,ha,hb,hc⟩:=trimB_spec h
   refine ⟨(i,b)::bx',hk,fun p hp=>?_,fun p hp=>?_,fun κ' hκ=>?_⟩
   ·rcases List.mem_cons.1 hp with rfl | hp
    ·exact List.mem_cons_self
    ·exact List.mem_cons_of_mem _ (ha p hp)
   ·rcases List.mem_cons.1 hp with rfl | hp
    ·exact .inl List.mem_cons_self
    ·rcases hb p hp with h | h
     ·exact .inl (List.mem_cons_of_mem _ h)
     ·exact .inr h
   ·simp only [updl]
    rw [hc κ' hκ]
theorem trimE_good {o:Oper} {nx:Nat} {ρ:Nat→AV} {κ:Nat→Box} {k:Eff→Nat→Prop} (h:Good P C ops n o nx ρ κ fun eff nx'=>trimE ops o κ eff fun eff=>k eff nx'):Good P C ops n o nx ρ κ k:=by
 obtain ⟨eff,nx',h1,h2,h3,h4⟩:=h
 unfold trimE at h1
 cases hd:dynCall o.op && Nat.ble 16 ops.length with
 | false=>rw [hd] at h1; exact ⟨eff,nx',h1,h2,h3,h4⟩
 | true =>
  rw [hd] at h1
  rcases h1 with h1 | h1
  ·exact ⟨eff,nx',h1,h2,h3,h4⟩
  ·obtain ⟨bx',hk,ha,hb,hc⟩:=trimB_spec h1
   refine ⟨_,nx',hk,h2,fun p hp=>h3 p (ha p hp),fun F hF ρ' κ' hag g a w hgm hst=>?_⟩
   have hr:=h4 F hF ρ' κ' ⟨hag.slots,hag.rows,hag.reads,fun i b hib=>?_⟩ g a w hgm hst
   ·simp only
    rw [hc κ' hag.reads]
    exact hr
   ·rcases hb _ hib with h | h
    ·exact hag.boxes i b h
    ·exact hag.reads i h
theorem adraw_sound (hT:TOk P T) (hR:CallsSnd P C) {k:Nat→Env→Boxes→List Rec→Prop} {ρ0:Nat→AV} {κ0:Nat→Box} {lo:Nat} :
  ∀(rest done:List Oper) (nx:Nat) (env:Env) (K:Boxes) (rs:List Rec),ops=done++rest→rs.length=done.length→lo≤nx →
   (∀i,nx≤i→lookB K i=.none) →
   look env=acc ρ0 (fun i=>(rs[i]?.map (·.eff.dst)).getD []) (fun _=>true) done.length→lookB K=acc κ0 (fun i=>(rs[i]?.map (·.eff.box)).getD []) (fun _=>true) done.length →
   (∀i r o,rs[i]?=some r→ops[i]?=some o→r.rows=ridk (acc ρ0 (fun i=>(rs[i]?.map (·.eff.dst)).getD []) (fun _=>true) i) (acc κ0 (fun i=>(rs[i]?.map (·.eff.box)).getD []) (fun _=>true) i) o∧Snd P C ops n lo o (acc ρ0 (fun i=>(rs[i]?.map (·.eff.dst)).getD []) (fun _=>true) i) (acc κ0 (fun i=>(rs[i]?.map (·.eff.box)).getD []) (fun _=>true) i) r.eff) →
   adraw P T ops n rest nx env K rs k →
   ∃nx' env' K' rs',k nx' env' K' rs'∧rs'.length=ops.length∧lo≤nx'∧(∀i,nx'≤i→lookB K' i=.none) ∧
    look env'=acc ρ0 (fun i=>(rs'[i]?.map (·.eff.dst)).getD []) (fun _=>true) ops.length∧lookB K'=acc κ0 (fun i=>(rs'[i]?.map (·.eff.box)).getD []) (fun _=>true) ops.length ∧
    ∀i r o,rs'[i]?=some r→ops[i]?=some o→r.rows=ridk (acc ρ0 (fun i=>(rs'[i]?.map (·.eff.dst)).getD []) (fun _=>true) i) (acc κ0 (fun i=>(rs'[i]?.map (·.eff.box)).getD []) (fun _=>true) i) o∧Snd P C ops n lo o (acc ρ0 (fun i=>(rs'[i]?.map (·.eff.dst)).getD []) (fun _=>true) i) (acc κ0 (fun i=>(rs'[i]?.map (·.eff.box)).getD []) (fun _=>true) i) r.eff
 | [],done,nx,env,K,rs,hops,hlen,hlo,hn,he,hk,hall,h=>by
  have:done.length=ops.length:=by rw [hops]; simp
  exact ⟨nx,env,K,rs,h,by omega,hlo,hn,by rw [←this]; exact he,by rw [←this]; exact hk,hall⟩
 | o::rest,done,nx,env,K,rs,hops,hlen,hlo,hn,he,hk,hall,h=>by
  obtain ⟨eff,nx',hk',hle,hb,hsnd⟩:=trimE_good (ops:=ops) (n:=n) (o:=o) (nx:=nx) (ρ:=look env) (κ:=lookB K) (k:=fun eff nx'=>contE eff.dst env fun env'=>contB eff.box K fun K'=>adraw P T ops n rest nx' env' K' (rs++[(⟨ridk (look env) (lookB K) o,eff⟩:Rec)]) k) (aopH_sound hT hn hR h)
  rw [contE_eq,contB_eq] at hk'
  have hget:∀i,i<rs.length→(rs++[⟨ridk (look env) (lookB K) o,eff⟩])[i]?=rs[i]?:=fun i hi=>List.getElem?_append_left hi
  have hlast:(rs++[(⟨ridk (look env) (lookB K) o,eff⟩:Rec)])[done.length]?=some ⟨ridk (look env) (lookB K) o,eff⟩:=by rw [←hlen]; simp
  have hs1:∀m,m≤done.length→acc ρ0 (fun i=>((rs++[(⟨ridk (look env) (lookB K) o,eff⟩:Rec)])[i]?.map (·.eff.dst)).getD []) (fun _=>true) m=acc ρ0 (fun i=>(rs[i]?.map (·.eff.dst)).getD []) (fun _=>true) m :=
   fun m hm=>acc_same _ _ _ m fun i hi=>by rw [hget i (by omega)]
  have hs2:∀m,m≤done.length→acc κ0 (fun i=>((rs++[(⟨ridk (look env) (lookB K) o,eff⟩:Rec)])[i]?.map (·.eff.box)).getD []) (fun _=>true) m=acc κ0 (fun i=>(rs[i]?.map (·.eff.box)).getD []) (fun _=>true) m :=
   fun m hm=>acc_same _ _ _ m fun i hi=>by rw [hget i (by omega)]
  refine adraw_sound hT hR rest (done++[o]) nx' (addE eff.dst env) (addB eff.box K) (rs++[⟨ridk (look env) (lookB K) o,eff⟩]) (by rw [hops]; simp) (by simp [hlen]) (Nat.le_trans hlo hle) (none_after hn hle hb) ?_ ?_ ?_ hk'
  ·rw [look_addE,List.length_append]
   simp only [List.length_cons,List.length_nil,Nat.zero_add,acc,if_true]
   rw [hs1 _ (Nat.le_refl _),hlast,←he]; rfl
  ·rw [lookB_addB,List.length_append]
   simp only [List.length_cons,List.length_nil,Nat.zero_add,acc,if_true]
   rw [hs2 _ (Nat.le_refl _),hlast,←hk]; rfl
  ·intro i r o' hr ho'
   rcases Nat.lt_or_ge i rs.length with hlt | hge
   ·rw [hget i hlt] at hr
    rw [hs1 i (by omega),hs2 i (by omega)]
    exact hall i r o' hr ho'
   ·have hi:i=done.length:=by
     have:=(List.getElem?_eq_some_iff.1 hr).1
     simp at this; omega
    subst hi
    rw [hlast] at hr
    injection hr with hr
    subst hr
    rw [hops] at ho'
    simp at ho'
    subst ho'
    rw [hs1 _ (Nat.le_refl _),hs2 _ (Nat.le_refl _),←he,←hk]
    exact ⟨rfl,hsnd.lo hlo⟩
end
end Go.TM
namespace Go.TM
open Go.RowKit
variable [Glob]
theorem disj_spec:∀{l r:List Nat},disj l r=true→∀x,x∈l→x ∉ r
 | [],r,_,x,h=>by simp at h
 | y::l,r,h,x,hx=>by
  simp only [disj,Bool.and_eq_true,Bool.not_eq_true'] at h
  rcases List.mem_cons.1 hx with rfl | hx
  ·exact memN_false h.1
  ·exact disj_spec h.2 x hx
theorem keysE_eq (l:List (Nat × AV)):keysE l=keys l:=by
 induction l with
 | nil=>rfl
 | cons p r ih=>simp [keysE,keys,ih]
theorem keysB_eq (l:List (Nat × Box)):keysB l=keys l:=by
 induction l with
 | nil=>rfl
 | cons p r ih=>simp [keysB,keys,ih]
def cntf (E:Nat→Bool):Nat→Nat
 | 0=>0
 | m+1=>(if E m then 0 else 1)+cntf E m
theorem setE_same (E:Nat→Bool) (j:Nat):setE E j j=true:=by simp [setE]
theorem setE_other (E:Nat→Bool) {i j:Nat} (h:i ≠ j):setE E j i=E i:=by simp [setE,h]
theorem cntf_set {E:Nat→Bool} {j:Nat} (hj:E j=false):∀{m:Nat},j<m→cntf (setE E j) m+1=cntf E m
 | 0,h=>by omega
 | m+1,h=>by
  rcases Nat.lt_or_ge j m with hlt | hge
  ·have ih:=cntf_set hj hlt
   have e:=setE_other E (i:=m) (j:=j) (by omega)
   simp only [cntf,e]
   omega
  ·have:j=m:=by omega
   subst this
   have low:∀q,q≤j→cntf (setE E j) q=cntf E q:=by
    intro q
    induction q with
    | zero=>intro _; rfl
    | succ q ih =>
     intro hq
     have e:=setE_other E (i:=q) (j:=j) (by omega)
     simp only [cntf,e,ih (by omega)]
   have:=low j (Nat.le_refl _)
   simp only [cntf,setE_same,hj,if_true,Bool.false_eq_true,if_false]
   omega
theorem cntf_zero {E:Nat→Bool}:∀{m:Nat},cntf E m=0→∀i,i<m→E i=true
 | 0,_,i,hi=>by omega
 | m+1,h,i,hi=>by
  simp only [cntf] at h
  rcases Nat.lt_or_ge i m with hlt | hge
  ·exact cntf_zero (by omega) i hlt
  ·have:i=m:=by omega
   subst this
   cases he:E i with
   | true=>rfl
   | false=>simp [he] at h
section
variable {ops:List Oper}
theorem edges_spec:∀{l:List Oper} {s:Nat},edgesB s l=true→∀{i:Nat} {o:Oper},l[i]?=some o→∀d,d∈deps o→d<s+i
 | [],s,_,i,o,h,_,_=>by simp at h
 | x::l,s,he,i,o,h,d,hd=>by
  simp only [edgesB,Bool.and_eq_true,List.all_eq_true] at he
  cases i with
  | zero=>simp at h; subst h; have:=he.1 d hd; rw [Nat.blt_eq] at this; omega
  | succ i=>have:=edges_spec he.2 (i:=i) (by simpa using h) d hd; omega
theorem indepAt_spec {rs:List Rec} {j:Nat} {y:Rec} {oy:Oper}:∀{xr:List Rec} {xo:List Oper} {s:Nat},indepAt ops rs j y oy s xr xo=true→∀{i:Nat} {x:Rec} {ox:Oper},xr[i]?=some x→xo[i]?=some ox→s+i<j →
  reachB ops ops.length (s+i) j=true ∨ (apartB ops x y oy=true∧apartB ops y x ox=true)
 | [],xo,s,_,i,x,ox,h,_,_=>by simp at h
 | _::_,[],s,_,i,x,ox,_,h,_=>by simp at h
 | a::xr,b::xo,s,hh,i,x,ox,h1,h2,hlt=>by
  simp only [indepAt,Bool.and_eq_true] at hh
  cases i with
  | zero =>
   simp at h1 h2
   subst h1; subst h2
   have:=hh.1
   rw [show Nat.blt s j=true by rw [Nat.blt_eq]; omega] at this
   simpa using this
  | succ i =>
   have:=indepAt_spec hh.2 (i:=i) (by simpa using h1) (by simpa using h2) (by omega)
   rw [show s+(i+1)=s+1+i by omega]; exact this
theorem indepFrom_spec {rs:List Rec}:∀{yr:List Rec} {yo:List Oper} {s:Nat},indepFrom ops rs s yr yo=true→∀{j:Nat} {y:Rec} {oy:Oper},yr[j]?=some y→yo[j]?=some oy →
  indepAt ops rs (s+j) y oy 0 rs ops=true
 | [],yo,s,_,j,y,oy,h,_=>by simp at h
 | _::_,[],s,_,j,y,oy,_,h=>by simp at h
 | a::yr,b::yo,s,hh,j,y,oy,h1,h2=>by
  simp only [indepFrom,Bool.and_eq_true] at hh
  cases j with
  | zero=>simp at h1 h2; subst h1; subst h2; exact hh.1
  | succ j =>
   have:=indepFrom_spec hh.2 (j:=j) (by simpa using h1) (by simpa using h2)
   rw [show s+(j+1)=s+1+j by omega]; exact this
theorem mem_deps {o:Oper} {d:Nat}:d∈deps o ↔ ∃e,e∈o.after.toList∧Region.binds .any e=true∧e.on=d:=by
 unfold deps
 rw [List.mem_filterMap]
 constructor
 ·rintro ⟨e,he,h⟩
  cases hb:Region.binds .any e with
  | false=>rw [hb] at h; cases h
  | true=>rw [hb] at h; simp at h; exact ⟨e,he,hb,h⟩
 ·rintro ⟨e,he,hb,rfl⟩
  exact ⟨e,he,by rw [hb]; rfl⟩
theorem reach_deps {E:Nat→Bool} (hdown:∀i o,ops[i]?=some o→E i=true→∀d,d∈deps o→E d=true):∀{f i j:Nat} {o:Oper},ops[j]?=some o→reachB ops f i j=true→(∀d,d∈deps o→E d=true)→(∀d,d∈deps o→d<ops.length)→(∀(q:Nat) (o:Oper),ops[q]?=some o→∀d,d∈deps o→d<ops.length)→E i=true
 | 0,i,j,o,_,h,_,_,_=>by simp [reachB] at h
 | f+1,i,j,o,ho,h,hd,hl,hall=>by
  simp only [reachB,ho,List.any_eq_true,Bool.or_eq_true] at h
  obtain ⟨d,hdm,h⟩:=h
  rcases h with h | h
  ·have:=Nat.eq_of_beq_eq_true h; subst this; exact hd d hdm
  ·have hlt:=hl d hdm
   have hod:ops[d]?=some (ops[d]'hlt):=List.getElem?_eq_getElem hlt
   exact reach_deps hdown hod h (hdown d _ hod (hd d hdm)) (hall d _ hod) hall
theorem mem_ready {listed:Array Bool} {i:Nat} (hsz:listed.size=ops.length):i∈Region.ready .any ops.toArray listed ↔ ∃o,ops[i]?=some o∧listed.getD i false=false∧∀d,d∈deps o→listed.getD d false=true:=by
 unfold Region.ready
 rw [List.mem_filter,List.mem_range]
 constructor
 ·rintro ⟨hlt,h⟩
  have hlt':i<ops.length:=by simpa using hlt
  have ho:ops[i]?=some (ops[i]'hlt'):=List.getElem?_eq_getElem hlt'
  refine ⟨_,ho,?_,?_⟩
  ·simp only [Bool.and_eq_true,Bool.not_eq_true'] at h
   have h1:=h.1
   simp only [Array.getD_eq_getD_getElem?] at h1 ⊢
   rw [Array.getElem?_eq_getElem (by omega)] at h1 ⊢
   simpa using h1
  ·intro d hd
   simp only [Bool.and_eq_true] at h
   have h2:=h.2
   rw [show ops.toArray[i]?=some (ops[i]'hlt') by simp] at h2
   simp only [Option.map_some,Option.getD_some,Array.all_eq_true'] at h2
   obtain ⟨e,he,hb,rfl⟩:=mem_deps.1 hd
   have:=h2 e (by simpa using he)
   simpa [hb] using this
 ·rintro ⟨o,ho,h1,h2⟩
  have hlt:i<ops.length:=(List.getElem?_eq_some_iff.1 ho).1
  refine ⟨by simpa using hlt,?_⟩
  simp only [Bool.and_eq_true,Bool.not_eq_true']
  constructor
  ·simp only [Array.getD_eq_getD_getElem?] at h1 ⊢
   rw [Array.getElem?_eq_getElem (by omega)] at h1 ⊢
   simpa using h1
  ·rw [show ops.toArray[i]?=some o by simpa using ho]
   simp only [Option.map_some,Option.getD_some,Array.all_eq_true']
   intro e he
   cases hb:Region.binds .any e with
   | false=>rfl
   | true =>
    have:=h2 e.on (mem_deps.2 ⟨e,by simpa using he,hb,rfl⟩)
    simpa using this
end
section
variable {P:Program} {C:Org→Prop} {ops:List Oper} {n:Nat} {g:Org}
theorem any_order (hCg:C g) {F:Fence} (hF:Wide F) {lo:Nat} (hgm:g.m≤lo) {ρ0:Nat→AV} {κ0:Nat→Box} {rs:List Rec} {Q:Exit→Act→World→Prop} (hind:indepB ops rs=true) (hlen:rs.length=ops.length)
  (hall:∀i r o,rs[i]?=some r→ops[i]?=some o→r.rows=ridk (acc ρ0 (fun i=>(rs[i]?.map (·.eff.dst)).getD []) (fun _=>true) i) (acc κ0 (fun i=>(rs[i]?.map (·.eff.box)).getD []) (fun _=>true) i) o∧Snd P C ops n lo o (acc ρ0 (fun i=>(rs[i]?.map (·.eff.dst)).getD []) (fun _=>true) i) (acc κ0 (fun i=>(rs[i]?.map (·.eff.box)).getD []) (fun _=>true) i) r.eff)
  (hQ:∀a w,St g n (acc ρ0 (fun i=>(rs[i]?.map (·.eff.dst)).getD []) (fun _=>true) ops.length) (acc κ0 (fun i=>(rs[i]?.map (·.eff.box)).getD []) (fun _=>true) ops.length) a w→Q .normal a w) :
  ∀(fuel:Nat) (listed:Array Bool) (a:Act) (w:World),listed.size=ops.length→cntf (fun i=>listed.getD i false) ops.length≤fuel →
   (∀i o,ops[i]?=some o→listed.getD i false=true→∀d,d∈deps o→listed.getD d false=true) →
   St g n (acc ρ0 (fun i=>(rs[i]?.map (·.eff.dst)).getD []) (fun i=>listed.getD i false) ops.length) (acc κ0 (fun i=>(rs[i]?.map (·.eff.box)).getD []) (fun i=>listed.getD i false) ops.length) a w →
   wpAnyIn F 0 P .any ops.toArray Q fuel listed a w:=by
 simp only [indepB,Bool.and_eq_true] at hind
 obtain ⟨hedge,hind⟩:=hind
 have hdl:∀(q:Nat) (o:Oper),ops[q]?=some o→∀d,d∈deps o→d<ops.length:=fun q o ho d hd=>by
  have h1:=edges_spec hedge ho d hd
  have h2:=(List.getElem?_eq_some_iff.1 ho).1
  omega
 have done:∀(listed:Array Bool) (a:Act) (w:World),(∀i,i<ops.length→listed.getD i false=true) →
   St g n (acc ρ0 (fun i=>(rs[i]?.map (·.eff.dst)).getD []) (fun i=>listed.getD i false) ops.length) (acc κ0 (fun i=>(rs[i]?.map (·.eff.box)).getD []) (fun i=>listed.getD i false) ops.length) a w→Q .normal a w:=by
  intro listed a w hl hs
  refine hQ a w ?_
  have e1:∀t,acc ρ0 (fun i=>(rs[i]?.map (·.eff.dst)).getD []) (fun i=>listed.getD i false) ops.length t=acc ρ0 (fun i=>(rs[i]?.map (·.eff.dst)).getD []) (fun _=>true) ops.length t :=
   fun t=>acc_low fun i hi he=>by rw [hl i hi] at he; cases he
  have e2:∀t,acc κ0 (fun i=>(rs[i]?.map (·.eff.box)).getD []) (fun i=>listed.getD i false) ops.length t=acc κ0 (fun i=>(rs[i]?.map (·.eff.box)).getD []) (fun _=>true) ops.length t :=
   fun t=>acc_low fun i hi he=>by rw [hl i hi] at he; cases he
  rw [←funext e1,←funext e2]
  exact hs
 have stuck:∀(listed:Array Bool),listed.size=ops.length→Region.ready .any ops.toArray listed=[]→∀i,i<ops.length→listed.getD i false=true:=by
  intro listed hsz hr i
  induction i using Nat.strongRecOn with
  | _ i ih =>
   intro hi
   cases hl:listed.getD i false with
   | true=>rfl
   | false =>
    have ho:ops[i]?=some (ops[i]'hi):=List.getElem?_eq_getElem hi
    have:i∈Region.ready .any ops.toArray listed:=(mem_ready hsz).2 ⟨_,ho,hl,fun d hd=>ih d (by have:=edges_spec hedge ho d hd; omega) (hdl i _ ho d hd)⟩
    rw [hr] at this; cases this
 intro fuel
 induction fuel with
 | zero =>
  intro listed a w hsz hc hdown hs
  have hl:=cntf_zero (E:=fun i=>listed.getD i false) (m:=ops.length) (by omega)
  refine ⟨?_,done listed a w hl hs⟩
  refine List.eq_nil_iff_forall_not_mem.2 fun i hi=>?_
  obtain ⟨o,ho,h1,_⟩:=(mem_ready hsz).1 hi
  have:listed.getD i false=true:=hl i (List.getElem?_eq_some_iff.1 ho).1
  rw [h1] at this; cases this
 | succ fuel ih =>
  intro listed a w hsz hc hdown hs
  refine ⟨fun hr=>done listed a w (stuck listed hsz hr) hs,fun j hj=>?_⟩
  obtain ⟨o,ho,hun,hdep⟩:=(mem_ready hsz).1 hj
  have hjl:j<ops.length:=(List.getElem?_eq_some_iff.1 ho).1
  have hrj:rs[j]?=some (rs[j]'(by omega)):=List.getElem?_eq_getElem (by omega)
  obtain ⟨hrows,hsnd⟩:=hall j _ o hrj ho
  have apart:∀(i:Nat) (x:Rec) (ox:Oper),rs[i]?=some x→ops[i]?=some ox→i ≠ j→(i<j∧listed.getD i false=false ∨ j<i∧listed.getD i false=true)→apartB ops x (rs[j]'(by omega)) o=true∧apartB ops (rs[j]'(by omega)) x ox=true:=by
   intro i x ox hx hox hne hcase
   rcases hcase with ⟨hlt,hli⟩ | ⟨hlt,hli⟩
   ·have h1:=indepFrom_spec hind hrj ho
    rw [Nat.zero_add] at h1
    rcases indepAt_spec h1 hx hox (by omega) with hr | hr
    ·rw [Nat.zero_add] at hr
     have:listed.getD i false=true:=reach_deps (E:=fun i=>listed.getD i false) hdown ho hr hdep (hdl j o ho) hdl
     rw [hli] at this; cases this
    ·exact hr
   ·have h1:=indepFrom_spec hind hx hox
    rw [Nat.zero_add] at h1
    rcases indepAt_spec h1 hrj ho (by omega) with hr | hr
    ·rw [Nat.zero_add] at hr
     have:listed.getD j false=true:=reach_deps (E:=fun i=>listed.getD i false) hdown hox hr (hdown i ox hox hli) (hdl i ox hox) hdl
     rw [hun] at this; cases this
    ·exact ⟨hr.2,hr.1⟩
  have hgetE:∀i,i<ops.length→∃x ox,rs[i]?=some x∧ops[i]?=some ox:=fun i hi=>⟨_,_,List.getElem?_eq_getElem (by omega),List.getElem?_eq_getElem hi⟩
  have slotRead:∀t,(∀(x:Rec) (ox:Oper),apartB ops x (rs[j]'(by omega)) o=true→t ∉ keys x.eff.dst)→acc ρ0 (fun i=>(rs[i]?.map (·.eff.dst)).getD []) (fun i=>listed.getD i false) ops.length t=acc ρ0 (fun i=>(rs[i]?.map (·.eff.dst)).getD []) (fun _=>true) j t:=by
   intro t ht
   refine acc_read (by omega) (fun i hi he=>?_) (fun i hji hi he=>?_)
   ·obtain ⟨x,ox,hx,hox⟩:=hgetE i (by omega)
    simp only [hx,Option.map_some,Option.getD_some]
    exact ht x ox (apart i x ox hx hox (by omega) (.inl ⟨hi,he⟩)).1
   ·rcases Nat.lt_or_eq_of_le hji with hlt | rfl
    ·obtain ⟨x,ox,hx,hox⟩:=hgetE i hi
     simp only [hx,Option.map_some,Option.getD_some]
     exact ht x ox (apart i x ox hx hox (by omega) (.inr ⟨hlt,he⟩)).1
    ·rw [hun] at he; cases he
  have boxRead:∀t,(∀(x:Rec) (ox:Oper),apartB ops x (rs[j]'(by omega)) o=true→t ∉ keys x.eff.box)→acc κ0 (fun i=>(rs[i]?.map (·.eff.box)).getD []) (fun i=>listed.getD i false) ops.length t=acc κ0 (fun i=>(rs[i]?.map (·.eff.box)).getD []) (fun _=>true) j t:=by
   intro t ht
   refine acc_read (by omega) (fun i hi he=>?_) (fun i hji hi he=>?_)
   ·obtain ⟨x,ox,hx,hox⟩:=hgetE i (by omega)
    simp only [hx,Option.map_some,Option.getD_some]
    exact ht x ox (apart i x ox hx hox (by omega) (.inl ⟨hi,he⟩)).1
   ·rcases Nat.lt_or_eq_of_le hji with hlt | rfl
    ·obtain ⟨x,ox,hx,hox⟩:=hgetE i hi
     simp only [hx,Option.map_some,Option.getD_some]
     exact ht x ox (apart i x ox hx hox (by omega) (.inr ⟨hlt,he⟩)).1
    ·rw [hun] at he; cases he
  have apS:∀{x y:Rec} {oy:Oper},apartB ops x y oy=true→disj (keysE x.eff.dst) (oy.looksAt ops.toArray)=true∧disj (keysE x.eff.dst) (keysE y.eff.dst)=true∧disj (keysB x.eff.box) y.rows=true∧disj (keysB x.eff.box) y.eff.reads=true∧disj (keysB x.eff.box) (keysB y.eff.box)=true:=by
   intro x y oy h
   simp only [apartB,Bool.and_eq_true] at h
   exact ⟨h.1.1.1.1,h.1.1.1.2,h.1.1.2,h.1.2,h.2⟩
  have hag:Agr ops o (acc ρ0 (fun i=>(rs[i]?.map (·.eff.dst)).getD []) (fun _=>true) j) (acc ρ0 (fun i=>(rs[i]?.map (·.eff.dst)).getD []) (fun i=>listed.getD i false) ops.length)
    (acc κ0 (fun i=>(rs[i]?.map (·.eff.box)).getD []) (fun _=>true) j) (acc κ0 (fun i=>(rs[i]?.map (·.eff.box)).getD []) (fun i=>listed.getD i false) ops.length) (rs[j]'(by omega)).eff.reads (rs[j]'(by omega)).eff.box:=by
   refine ⟨fun t ht=>slotRead t fun x ox h hm=>?_,fun i hi=>boxRead i fun x ox h hm=>?_,fun i hi=>boxRead i fun x ox h hm=>?_,fun i b hb=>boxRead i fun x ox h hm=>?_⟩
   ·exact disj_spec (apS h).1 t (by rw [keysE_eq]; exact hm) ht
   ·exact disj_spec (apS h).2.2.1 i (by rw [keysB_eq]; exact hm) (by rw [hrows]; exact hi)
   ·exact disj_spec (apS h).2.2.2.1 i (by rw [keysB_eq]; exact hm) hi
   ·exact disj_spec (apS h).2.2.2.2 i (by rw [keysB_eq]; exact hm) (by rw [keysB_eq]; exact List.mem_map.2 ⟨(i,b),hb,rfl⟩)
  have hrun:=hsnd F hF _ _ hag g a w ⟨hgm,hCg⟩ hs
  have hset:(fun i=>(listed.setIfInBounds j true).getD i false)=setE (fun i=>listed.getD i false) j:=by
   funext i
   simp only [setE,Array.getD_eq_getD_getElem?]
   by_cases e:i=j
   ·subst e; simp [hsz,hjl]
   ·rw [if_neg e,Array.getElem?_setIfInBounds_ne (fun h=>e h.symm)]
  have next:∀a' w',St g n (updl (acc ρ0 (fun i=>(rs[i]?.map (·.eff.dst)).getD []) (fun i=>listed.getD i false) ops.length) (rs[j]'(by omega)).eff.dst) (updl (acc κ0 (fun i=>(rs[i]?.map (·.eff.box)).getD []) (fun i=>listed.getD i false) ops.length) (rs[j]'(by omega)).eff.box) a' w' →
    wpAnyIn F 0 P .any ops.toArray Q fuel (listed.setIfInBounds j true) a' w':=by
   intro a' w' hs'
   refine ih _ a' w' (by simp [hsz]) ?_ ?_ ?_
   ·rw [hset]
    have:=cntf_set (E:=fun i=>listed.getD i false) hun hjl
    omega
   ·have hset':∀i,(listed.setIfInBounds j true).getD i false=setE (fun i=>listed.getD i false) j i:=fun i=>congrFun hset i
    intro i o' ho' hi d hd
    rw [hset'] at hi ⊢
    have up:listed.getD d false=true→setE (fun i=>listed.getD i false) j d=true:=fun h=>by
     by_cases e:d=j
     ·subst e; exact setE_same _ _
     ·rw [setE_other _ e]; exact h
    by_cases e:i=j
    ·subst e
     rw [ho] at ho'; injection ho' with ho'; subst ho'
     exact up (hdep d hd)
    ·rw [setE_other _ e] at hi
     exact up (hdown i o' ho' hi d hd)
   ·rw [hset]
    rw [acc_set (f:=ρ0) hun hjl (fun i h1 h2 h3 t ht=>?_),acc_set (f:=κ0) hun hjl (fun i h1 h2 h3 t ht=>?_)]
    ·simpa [hrj] using hs'
    ·obtain ⟨x,ox,hx,hox⟩:=hgetE i h2
     simp only [hrj,hx,Option.map_some,Option.getD_some] at ht ⊢
     have h5:=disj_spec (apS (apart i x ox hx hox (by omega) (.inr ⟨h1,h3⟩)).2).2.2.2.2 t (by rw [keysB_eq]; exact ht)
     rwa [keysB_eq] at h5
    ·obtain ⟨x,ox,hx,hox⟩:=hgetE i h2
     simp only [hrj,hx,Option.map_some,Option.getD_some] at ht ⊢
     have h5:=disj_spec (apS (apart i x ox hx hox (by omega) (.inr ⟨h1,h3⟩)).2).2.1 t (by rw [keysE_eq]; exact ht)
     rwa [keysE_eq] at h5
  unfold wpOpIn
  rw [show ops.toArray[j]?=some o by simpa using ho]
  unfold Runs at hrun
  simp only
  split at hrun
  ·rename_i hw; rw [if_pos hw]; exact wpIn_imp next hrun
  ·rename_i hw; rw [if_neg hw]; exact ⟨fun f _=>hF.fn f,next _ _ hrun⟩
end
end Go.TM
namespace Go.TM
open Go.RowKit
variable [Glob]
def Box.isNo:Box→Bool
 | .none=>true
 | _=>false
theorem isNo_none {b:Box} (h:b.isNo=true):b=.none:=by cases b <;> simp [Box.isNo] at h; rfl
def reH1 (m:Nat) (h:Nat→Nat→List PS→Option Value) (i V E v e:Nat):List PS→Option Value
 | []=>if v=(nfv m i V E).1∧e=0 then h V 0 [] else if i<m∧v=0∧e=0 then h 0 0 [] else none
 | s::q=>if v=(nfv m i V E).1∧e=(nfv m i V E).2 then h V E (s::q) else if i<m∧v=0∧e=0 then h 0 0 (s::q) else none
def bornH (v e:Nat) (p:List PS):Option Value:=match v,e,p with
 | 0,0,[]=>some (.slice none 0 0)
 | _,_,_=>none
def reH (m:Nat) (κ κ':Nat→Box) (H:Nat→Nat→Nat→List PS→Option Value) (i v e:Nat) (p:List PS):Option Value :=
 match (κ' i).isNo with
 | true=>none
 | false=>match κ i with
  | .tree V E _=>reH1 m (H i) i V E v e p
  | .fz V _=>reH1 m (H i) i V 0 v e p
  | .held=>reH1 m (H i) i 0 0 v e p
  | .none=>bornH v e p
  | _=>if i<m∧v=0∧e=0 then H i 0 0 p else none
def reβ (κ':Nat→Box) (β:Nat→Option Nat) (i:Nat):Option Nat:=match (κ' i).isNo with
 | true=>none
 | false=>β i
def reGh (m:Nat) (κ κ':Nat→Box) (G:Gh):Gh:={ G with β:=reβ κ' G.β,H:=reH m κ κ' G.H }
theorem nfv_fst (m i V E E':Nat):(nfv m i V E).1=(nfv m i V E').1:=by
 unfold nfv
 cases Nat.blt i m with
 | false=>rfl
 | true=>cases V with
  | zero=>cases E <;> cases E' <;> rfl
  | succ V=>rfl
theorem nfv_zero {m i V E:Nat} (hi:i<m) (h:(nfv m i V E).1=0):V=0∧((nfv m i V E).2=0→E=0):=by
 unfold nfv at *
 have hb:Nat.blt i m=true:=by rw [Nat.blt_eq]; exact hi
 rw [hb] at h ⊢
 cases V with
 | zero=>cases E with
  | zero=>exact ⟨rfl,fun _=>rfl⟩
  | succ E=>exact ⟨rfl,fun h=>by simp at h⟩
 | succ V=>simp at h
theorem nfv_out {m i V E:Nat} (hi:¬ i<m):nfv m i V E=(0,0):=by
 unfold nfv
 have hb:Nat.blt i m=false:=by cases hb:Nat.blt i m with | false=>rfl | true=>rw [Nat.blt_eq] at hb; exact absurd hb hi
 rw [hb]; rfl
theorem reH1_cur (m:Nat) (h:Nat→Nat→List PS→Option Value) (i V E:Nat) (s:PS) (q:List PS):reH1 m h i V E (nfv m i V E).1 0 []=h V 0 []∧reH1 m h i V E (nfv m i V E).1 (nfv m i V E).2 (s::q)=h V E (s::q):=by
 simp [reH1]
theorem reH1_old {m:Nat} {h:Nat→Nat→List PS→Option Value} {i V E:Nat} (hi:i<m) (p:List PS):reH1 m h i V E 0 0 p=h 0 0 p:=by
 cases p with
 | nil =>
  simp only [reH1]
  split
  ·rename_i hh; rw [(nfv_zero hi hh.1.symm).1]
  ·rw [if_pos (by simp [hi])]
 | cons s q =>
  simp only [reH1]
  split
  ·rename_i hh; obtain ⟨h1,h2⟩:=nfv_zero hi hh.1.symm; rw [h1,h2 hh.2.symm]
  ·rw [if_pos (by simp [hi])]
theorem reH1_hi {m:Nat} {h:Nat→Nat→List PS→Option Value} {i V E v:Nat} (hv:(nfv m i V E).1<v) (e:Nat) (p:List PS):reH1 m h i V E v e p=none:=by
 cases p with
 | nil=>simp only [reH1]; rw [if_neg (by omega),if_neg (by omega)]
 | cons s q=>simp only [reH1]; rw [if_neg (by omega),if_neg (by omega)]
theorem reH1_he {m:Nat} {h:Nat→Nat→List PS→Option Value} {i V E e:Nat} (hv:(nfv m i V E).2<e) (p:List PS):reH1 m h i V E (nfv m i V E).1 e p=none:=by
 cases p with
 | nil=>simp only [reH1]; rw [if_neg (by omega),if_neg (by omega)]
 | cons s q=>simp only [reH1]; rw [if_neg (by omega),if_neg (by omega)]
section
variable {m:Nat} {κ κ':Nat→Box} {G:Gh} {w:World}
theorem hdr_re {H:Nat→Nat→Nat→List PS→Option Value} {i V E:Nat} {d:DV} (hk:κ i=.tree V E d) (hn:(κ' i).isNo=false) (p:List PS):hdr (reH m κ κ' H) i (nfv m i V E).1 (nfv m i V E).2 p=hdr H i V E p:=by
 cases p with
 | nil=>simp only [hdr,reH,hn,hk]; exact (reH1_cur m (H i) i V E (.el 0 0) []).1
 | cons s q=>simp only [hdr,reH,hn,hk]; exact (reH1_cur m (H i) i V E s q).2
theorem nfv_00 (m i:Nat):nfv m i 0 0=(0,0):=by
 unfold nfv
 cases Nat.blt i m <;> rfl
theorem hdr_held {H:Nat→Nat→Nat→List PS→Option Value} {i:Nat} (hk:κ i=.held) (hn:(κ' i).isNo=false):hdr (reH m κ κ' H) i 0 0=hdr H i 0 0:=by
 have e:=nfv_00 m i
 funext p
 cases p with
 | nil =>
  simp only [hdr,reH,hn,hk]
  have:=(reH1_cur m (H i) i 0 0 (.el 0 0) []).1
  rw [e] at this; exact this
 | cons s q =>
  simp only [hdr,reH,hn,hk]
  have:=(reH1_cur m (H i) i 0 0 s q).2
  rw [e] at this; exact this
theorem held_two {a b:Box} (h:match a,b with | .held,.held=>True | _,_=>False):a=.held∧b=.held:=by
 split at h
 ·exact ⟨rfl,rfl⟩
 ·exact h.elim
theorem nrm_own {v:AV} {i ver ep:Nat} {p:List PS} (h:nrm m κ v=.own i ver ep p):(∃V E e d,v=.own i V e p∧κ i=.tree V E d∧(p=[] ∨ e=E)∧ver=(nfv m i V E).1∧ep=(nfv m i V E).2) ∨ ∃e,v=.own i 0 e p∧κ i=.held∧(p=[] ∨ e=0)∧ver=0∧ep=0:=by
 cases v with
 | own j V e q =>
  simp only [nrm] at h
  split at h
  ·rename_i V' E' d hk
   cases hb:Nat.beq V V' && (emp q || Nat.beq e E') with
   | false=>rw [hb] at h; cases h
   | true =>
    rw [hb] at h
    obtain ⟨rfl,hc⟩:=vis_cur hb
    simp only [cond_true,AV.own.injEq] at h
    obtain ⟨rfl,h1,h2,rfl⟩:=h
    exact .inl ⟨V,E',e,d,rfl,hk,hc,h1.symm,h2.symm⟩
  ·rename_i hk
   cases hb:Nat.beq V 0 && (emp q || Nat.beq e 0) with
   | false=>rw [hb] at h; cases h
   | true =>
    rw [hb] at h
    obtain ⟨rfl,hc⟩:=vis_cur hb
    simp only [cond_true,AV.own.injEq] at h
    obtain ⟨rfl,h1,h2,rfl⟩:=h
    exact .inr ⟨e,rfl,hk,hc,h1.symm,h2.symm⟩
  ·cases h
 | loc j V e q a b c =>
  simp only [nrm] at h
  split at h
  ·rename_i V' E' d hk
   cases hb:Nat.beq V V' && (emp q || Nat.beq e E') <;> rw [hb] at h <;> cases h
  ·cases h
 | ownf j V =>
  simp only [nrm] at h
  split at h
  ·rename_i V' E' d hk
   cases hb:Nat.beq V V' <;> rw [hb] at h <;> cases h
  ·cases h
 | _=>simp [nrm] at h
theorem nrm_ownf {v:AV} {i ver:Nat} (h:nrm m κ v=.ownf i ver):∃V E d,v=.ownf i V∧κ i=.tree V E d∧ver=(nfv m i V E).1:=by
 cases v with
 | ownf j V =>
  simp only [nrm] at h
  split at h
  ·rename_i V' E' d hk
   cases hb:Nat.beq V V' with
   | false=>rw [hb] at h; cases h
   | true =>
    rw [hb] at h
    have:=Nat.eq_of_beq_eq_true hb
    subst this
    simp only [cond_true,AV.ownf.injEq] at h
    obtain ⟨rfl,h1⟩:=h
    exact ⟨V,E',d,rfl,hk,h1.symm⟩
  ·cases h
 | own j V e q =>
  simp only [nrm] at h
  split at h
  ·rename_i V' E' d hk
   cases hb:Nat.beq V V' && (emp q || Nat.beq e E') <;> rw [hb] at h <;> cases h
  ·cases hb:Nat.beq V 0 && (emp q || Nat.beq e 0) <;> rw [hb] at h <;> cases h
  ·cases h
 | loc j V e q a b c =>
  simp only [nrm] at h
  split at h
  ·rename_i V' E' d hk
   cases hb:Nat.beq V V' && (emp q || Nat.beq e E') <;> rw [hb] at h <;> cases h
  ·cases h
 | _=>simp [nrm] at h
theorem nrm_loc {v:AV} {i ver ep a b c:Nat} {p:List PS} (h:nrm m κ v=.loc i ver ep p a b c):∃V E e d,v=.loc i V e p a b c∧κ i=.tree V E d∧(p=[] ∨ e=E)∧ver=(nfv m i V E).1∧ep=(nfv m i V E).2:=by
 cases v with
 | loc j V e q a b c =>
  simp only [nrm] at h
  split at h
  ·rename_i V' E' d hk
   cases hb:Nat.beq V V' && (emp q || Nat.beq e E') with
   | false=>rw [hb] at h; cases h
   | true =>
    rw [hb] at h
    obtain ⟨rfl,hc⟩:=vis_cur hb
    simp only [cond_true,AV.loc.injEq] at h
    obtain ⟨rfl,h1,h2,rfl,rfl,rfl,rfl⟩:=h
    exact ⟨V,E',e,d,rfl,hk,hc,h1.symm,h2.symm⟩
  ·cases h
 | own j V e q =>
  simp only [nrm] at h
  split at h
  ·rename_i V' E' d hk
   cases hb:Nat.beq V V' && (emp q || Nat.beq e E') <;> rw [hb] at h <;> cases h
  ·cases hb:Nat.beq V 0 && (emp q || Nat.beq e 0) <;> rw [hb] at h <;> cases h
  ·cases h
 | ownf j V =>
  simp only [nrm] at h
  split at h
  ·rename_i V' E' d hk
   cases hb:Nat.beq V V' <;> rw [hb] at h <;> cases h
  ·cases h
 | _=>simp [nrm] at h
theorem isPt_no {b:Box} (h:b.isPt=true):b.isNo=false:=by cases b <;> simp [Box.isPt] at h <;> rfl
theorem isV_no {b:Box} {v e:Nat} (h:b.isV v e=true):b.isNo=false:=by cases b <;> simp [Box.isV] at h <;> rfl
theorem subWs_length:∀{l' l:List AV},subWs m κ κ' l' l→l'.length=l.length
 | [],[],_=>rfl
 | [],_::_,h=>by simp [subWs] at h
 | _::_,[],h=>by simp [subWs] at h
 | _::_,_::_,h=>by simp only [subWs] at h; simp [subWs_length h.2]
theorem subW_rel {κc:Nat→Box} {F:List Nat} {G1:Gh} (hle:Gh.Le G G1) (hβ:G1.β=G.β) (hH:G1.H=G.H) (hag1:∀i,i∈F→κc i=κ i) (hfz:Fit G1 w (updl κc (frz κ F))):∀(N:Nat),
  (∀(u v:AV) (x:Value),SizeOf.sizeOf u<N→subW m κ κ' u v→AV.sc κ' u=true→(∀i,i∈fidw κ u v→i∈F)→VRel G v x→VRel (reGh m κ κ' G1) u x) ∧
  (∀(us vs:List AV) (xs:List Value),SizeOf.sizeOf us<N→subWs m κ κ' us vs→AV.scs κ' us=true→(∀i,i∈fidws κ us vs→i∈F)→CRel G vs xs→CRel (reGh m κ κ' G1) us xs):=by
 intro N
 induction N with
 | zero=>exact ⟨fun _ _ _ h=>by omega,fun _ _ _ h=>by omega⟩
 | succ N ih =>
  have hbet:∀{i b:Nat},G.β i=some b→(κ' i).isNo=false→(reGh m κ κ' G1).β i=some b:=fun {i b} h hn=>by simp only [reGh,reβ,hn,hβ]; exact h
  refine ⟨fun u v x hsz hs hc hF hv=>?_,fun us vs xs hsz hs hc hF hr=>?_⟩
  ·cases u with
   | any=>exact .any _
   | dv d' =>
    simp only [subW,subD] at hs
    split at hs
    ·rename_i d ids hd
     simp only [fidw,idsD,hd] at hF
     exact .dv (hs _ x (toD_sound (κ:=κ) (κ':=κc) (w:=w) (G':=G1) hd hF hag1 hle hfz hv))
    ·exact hs.elim
   | agg l' =>
    cases v with
    | agg l =>
     simp only [subW] at hs
     simp only [AV.sc] at hc
     simp only [fidw] at hF
     cases hv with | agg _ ys hl hr =>
     have:=ih.2 l' l ys (by simp at hsz; omega) hs hc hF ⟨hl,hr⟩
     exact .agg l' ys this.1 this.2
    | _=>simp [subW] at hs
   | tup l' =>
    cases v with
    | tup l =>
     simp only [subW] at hs
     simp only [AV.sc] at hc
     simp only [fidw] at hF
     cases hv with | tup _ ys hl hr =>
     have:=ih.2 l' l ys (by simp at hsz; omega) hs hc hF ⟨hl,hr⟩
     exact .tup l' ys this.1 this.2
    | _=>simp [subW] at hs
   | fn f' l' =>
    cases v with
    | fn f l =>
     simp only [subW] at hs
     simp only [AV.sc] at hc
     simp only [fidw] at hF
     obtain ⟨rfl,hs⟩:=hs
     cases hv with | fn _ _ ys hl hr =>
     have:=ih.2 l' l ys (by simp at hsz; omega) hs hc hF ⟨hl,hr⟩
     exact .fn f l' ys this.1 this.2
    | _=>simp [subW] at hs
   | bfn f' l' =>
    cases v with
    | bfn f l =>
     simp only [subW] at hs
     simp only [AV.sc] at hc
     simp only [fidw] at hF
     obtain ⟨rfl,hs⟩:=hs
     cases hv with | bfn _ _ ys hl hr =>
     have:=ih.2 l' l ys (by simp at hsz; omega) hs hc hF ⟨hl,hr⟩
     exact .bfn f l' ys this.1 this.2
    | _=>simp [subW] at hs
   | ptr i off =>
    simp only [subW] at hs
    simp only [AV.sc] at hc
    subst hs
    cases hv with | ptr _ _ b hb=>exact .ptr i off b (hbet hb (isPt_no hc))
   | yld i =>
    simp only [subW] at hs
    simp only [AV.sc] at hc
    subst hs
    cases hv with | yld _ l hb=>exact .yld i l (hbet hb (isPt_no hc))
   | sle i k =>
    simp only [subW] at hs
    simp only [AV.sc] at hc
    subst hs
    cases hv with | sle _ _ b hb=>exact .sle i k b (hbet hb (isPt_no hc))
   | own i ver ep p =>
    simp only [subW] at hs
    simp only [AV.sc] at hc
    have hno:=isV_no hc
    unfold subOwn at hs
    split at hs
    ·obtain ⟨rfl,rfl,rfl,hb,sz,hb'⟩:=hs
     cases hv with | dv hv=>cases hv with | nils =>
     refine .own i 0 0 [] _ ?_ rfl
     simp only [hdr,reGh,reH,hno,hb,bornH]
    ·rcases nrm_own hs with ⟨V,E,e,d,hdv,hk,hcur,rfl,rfl⟩ | ⟨e,hdv,hk,hcur,rfl,rfl⟩
     ·have hv:=dn_ok hv
      rw [hdv] at hv
      cases hv with | own _ _ _ _ _ hh hcc =>
      refine .own i _ _ p x ?_ hcc
      rw [hdr_cur hcur] at hh
      simp only [reGh]
      rw [hdr_re hk hno,hH]; exact hh
     ·have hv:=dn_ok hv
      rw [hdv] at hv
      cases hv with | own _ _ _ _ _ hh hcc =>
      refine .own i _ _ p x ?_ hcc
      rw [hdr_cur hcur] at hh
      simp only [reGh]
      rw [hdr_held hk hno,hH]; exact hh
   | loc i ver ep p a b c =>
    simp only [subW] at hs
    simp only [AV.sc] at hc
    have hno:=isV_no hc
    obtain ⟨V,E,e,d,rfl,hk,hcur,rfl,rfl⟩:=nrm_loc hs
    cases hv with
    | loc _ _ _ _ _ _ _ A q q' hh =>
     refine .loc i _ _ p a b c A q q' ?_
     rw [hdr_cur hcur] at hh
     simp only [reGh]
     rw [hdr_re hk hno,hH]; exact hh
    | locp _ _ _ _ _ _ _ A hh =>
     refine .locp i _ _ p a b c A ?_
     rw [hdr_cur hcur] at hh
     simp only [reGh]
     rw [hdr_re hk hno,hH]; exact hh
   | ownf i ver =>
    simp only [subW] at hs
    simp only [AV.sc] at hc
    have hno:=isV_no hc
    obtain ⟨V,E,d,rfl,hk,rfl⟩:=nrm_ownf hs
    cases hv with | ownf _ _ A q hh =>
    refine .ownf i _ A q ?_
    have:=hdr_re (m:=m) (H:=G1.H) hk hno []
    simp only [hdr] at this
    simp only [reGh]
    rw [this,hH]; exact hh
   | opt g u=>simp [AV.sc] at hc
  ·cases us with
   | nil =>
    cases vs with
    | nil=>exact ⟨hr.1,by simp⟩
    | cons=>simp [subWs] at hs
   | cons u us =>
    cases vs with
    | nil=>simp [subWs] at hs
    | cons v vs =>
     simp only [subWs] at hs
     simp only [AV.scs,Bool.and_eq_true] at hc
     simp only [fidws] at hF
     match xs,hr with
     | [],hr=>have:=hr.1; simp at this
     | x::xs,hr =>
      have h1:=ih.1 u v x (by simp at hsz; omega) hs.1 hc.1 (fun i hi=>hF i (by simp [hi])) (hr.2 0 v x rfl rfl)
      have h2:=ih.2 us vs xs (by simp at hsz; omega) hs.2 hc.2 (fun i hi=>hF i (by simp [hi])) ⟨by simpa using hr.1,fun q e y he hy=>hr.2 (q+1) e y (by simpa using he) (by simpa using hy)⟩
      refine ⟨by simp [h2.1],fun j d y hd hy=>?_⟩
      cases j with
      | zero=>simp at hd hy; subst hd; subst hy; exact h1
      | succ j=>exact h2.2 j d y (by simpa using hd) (by simpa using hy)
theorem frOk_mem:∀{F:List Nat},frOk κ' F=true→∀i,i∈F→∀v e d,κ' i ≠ .tree v e d
 | [],_,i,hi,_,_,_=>by simp at hi
 | j::F,h,i,hi,v,e,d=>by
  simp only [frOk,Bool.and_eq_true] at h
  rcases List.mem_cons.1 hi with rfl | hi
  ·intro hk; rw [hk] at h; cases h.1
  ·exact frOk_mem h.2 i hi v e d
def SubAt (m:Nat) (κ κ':Nat→Box) (F:List Nat) (i:Nat):Prop:=subX m κ κ' i (κ i) (κ' i)∧(κ' i).wfc κ'=true∧∀j,j∈fidsX κ i (κ i) (κ' i)→j∈F
theorem reFit {κc:Nat→Box} {F:List Nat} {G1:Gh} (hf:Fit G w κc) (hle:Gh.Le G G1) (hβ:G1.β=G.β) (hH:G1.H=G.H) (hX:G1.X=G.X) (hag1:∀i,i∈F→κc i=κ i) (hag2:∀i,(κ' i).isNo=false→κc i=κ i) (hfz:Fit G1 w (updl κc (frz κ F))) (hfr:frOk κ' F=true) (hs:∀i,SubAt m κ κ' F i) :
  Fit (reGh m κ κ' G1) w κ'∧∀i b,Own (reGh m κ κ' G1) i (κ' i) b→Own G1 i (updl κc (frz κ F) i) b:=by
 have hat0:=updl_frz (κ:=κ) (κ':=κc) (ids:=F) hag1
 have hat:∀j,(κ' j).isNo=false→updl κc (frz κ F) j=if j∈F then (κ j).frozenOf else κ j:=fun j hj=>by rw [hat0,hag2 j hj]
 have hback:∀i b,Own (reGh m κ κ' G1) i (κ' i) b→Own G1 i (updl κc (frz κ F) i) b:=by
  intro i b ho
  obtain ⟨hx,hwf,hid⟩:=hs i
  cases hk':κ' i with
  | none=>rw [hk'] at ho; exact ho.elim
  | dead=>rw [hk'] at ho; exact ho.elim
  | fz=>rw [hk'] at ho; exact ho.elim
  | cells l' =>
   rw [hk'] at ho hx
   cases hk:κ i with
   | cells l =>
    have hbx:updl κc (frz κ F) i=.cells l:=by rw [hat i (by rw [hk']; rfl),hk]; simp [Box.frozenOf]
    rw [hbx]
    simp only [Own,reGh,reβ,hk',Box.isNo] at ho ⊢
    exact ho
   | _=>rw [hk] at hx; exact hx.elim
  | tree v e d' =>
   rw [hk'] at ho hx
   cases hk:κ i with
   | tree V E d =>
    rw [hk] at hx
    simp only [subX] at hx
    obtain ⟨hx,rfl⟩:=hx
    have hnf:i ∉ F:=fun hi=>frOk_mem hfr i hi _ _ _ hk'
    have hbx:updl κc (frz κ F) i=.tree V E d:=by rw [hat i (by rw [hk']; rfl),if_neg hnf,hk]
    rw [hbx]
    have e1:v=(nfv m i V E).1:=by rw [hx]
    have e2:e=(nfv m i V E).2:=by rw [hx]
    subst e1; subst e2
    obtain ⟨p,nd,u,h1,h2,h3,h4⟩:=ho
    simp only [reGh] at h3
    rw [hdr_re hk (by rw [hk']; rfl)] at h3
    exact ⟨p,nd,u,h1,h2,h3,h4⟩
   | none =>
    rw [hk] at hx
    simp only [subX] at hx
    obtain ⟨rfl,rfl,sz,rfl⟩:=hx
    obtain ⟨p,nd,u,h1,h2,h3,h4⟩:=ho
    cases p with
    | nil =>
     simp only [hdr,reGh,reH,hk',Box.isNo,hk,bornH,Option.some.injEq] at h3
     subst h3; simp [blk] at h4
    | cons s p=>cases s <;> simp [get,step] at h1
   | _=>rw [hk] at hx; exact hx.elim
  | rcd rc st l' =>
   rw [hk'] at ho hx
   cases hk:κ i with
   | rcd rc0 st0 l =>
    have hbx:updl κc (frz κ F) i=.rcd rc0 st0 l:=by rw [hat i (by rw [hk']; rfl),hk]; simp [Box.frozenOf]
    rw [hbx]
    simp only [Own,reGh,reβ,hk',Box.isNo] at ho ⊢
    exact ho
   | _=>rw [hk] at hx; exact hx.elim
  | held=>rw [hk'] at ho; exact ho.elim
  | itr j' p' d' left' cur' =>
   rw [hk'] at ho hx
   cases hk:κ i with
   | itr j p d left cur =>
    rw [hk] at hx
    simp only [subX] at hx
    obtain ⟨rfl,rfl,rfl,rfl,_,hh⟩:=hx
    obtain ⟨e1,e2⟩:=held_two hh
    have hbx:updl κc (frz κ F) i=.itr j p d left cur:=by rw [hat i (by rw [hk']; rfl),hk]; simp [Box.frozenOf]
    rw [hbx]
    simp only [Own,reGh,reβ,hk',Box.isNo] at ho ⊢
    rw [hdr_held e1 (by rw [e2]; rfl)] at ho
    exact ho
   | _=>rw [hk] at hx; exact hx.elim
 refine ⟨⟨hfz.sub,fun i=>?_,fun i b ho=>hfz.own i b (hback i b ho),fun i j b ho ho'=>hfz.inj i j b (hback i b ho) (hback j b ho')⟩,hback⟩
 obtain ⟨hx,hwf,hid⟩:=hs i
 have hb1:=hfz.box i
 cases hk':κ' i with
 | none=>exact ⟨by simp [reGh,reβ,hk',Box.isNo],fun v e p=>by simp [reGh,reH,hk',Box.isNo]⟩
 | dead=>trivial
 | cells l' =>
  rw [hk'] at hx hwf hid
  cases hk:κ i with
  | cells l =>
   rw [hk] at hx hid
   simp only [subX] at hx
   simp only [fidsX] at hid
   simp only [Box.wfc,Bool.and_eq_true] at hwf
   have hb:=hf.box i
   rw [hag2 i (by rw [hk']; rfl),hk] at hb
   obtain ⟨b,c,t,hb0,hw,hsz,hcl,hr⟩:=hb
   have hlen:=subWs_length hx
   refine ⟨b,c,t,by simp only [reGh,reβ,hk',Box.isNo,hβ]; exact hb0,hw,by rw [hsz,hlen],allCell_mem hwf.2,fun j d v hd hv=>?_⟩
   have:=(subW_rel (m:=m) (κ:=κ) (κ':=κ') (w:=w) hle hβ hH hag1 hfz (SizeOf.sizeOf l'+1)).2 l' l c.toList (by omega) hx hwf.1 hid ⟨by simp [hsz],fun j d v hd hv=>hr j d v hd (by simpa using hv)⟩
   exact this.2 j d v hd (by simpa using hv)
  | _=>rw [hk] at hx; exact hx.elim
 | tree v e d' =>
  rw [hk'] at hx
  cases hk:κ i with
  | tree V E d =>
   rw [hk] at hx
   simp only [subX] at hx
   obtain ⟨hx,rfl⟩:=hx
   have hnf:i ∉ F:=fun hi=>frOk_mem hfr i hi _ _ _ hk'
   rw [hat i (by rw [hk']; rfl),if_neg hnf,hk] at hb1
   have e1:v=(nfv m i V E).1:=by rw [hx]
   have e2:e=(nfv m i V E).2:=by rw [hx]
   subst e1; subst e2
   have hno:(κ' i).isNo=false:=by rw [hk']; rfl
   have hhd:hdr (reGh m κ κ' G1).H i (nfv m i V E).1 (nfv m i V E).2=hdr G1.H i V E:=funext fun p=>by simp only [reGh]; exact hdr_re hk hno p
   refine ⟨?_,?_,fun v hv e p=>?_,fun e he p=>?_⟩
   ·rw [hhd]; exact hb1.1
   ·rw [hhd]; exact hb1.2.1
   ·simp only [reGh,reH,hno,hk]; exact reH1_hi hv e p
   ·simp only [reGh,reH,hno,hk]; exact reH1_he he p
  | none =>
   rw [hk] at hx
   simp only [subX] at hx
   obtain ⟨rfl,rfl,sz,rfl⟩:=hx
   have hno:(κ' i).isNo=false:=by rw [hk']; rfl
   have h0:hdr (reGh m κ κ' G1).H i 0 0 []=some (.slice none 0 0):=by simp only [hdr,reGh,reH,hno,hk,bornH]
   refine ⟨⟨rfl,fun p nd hp hn=>?_⟩,?_,fun v hv e p=>?_,fun e he p=>?_⟩
   ·cases p with
    | nil =>
     simp only [get,Option.some.injEq] at hp
     subst hp
     exact ⟨_,h0,rfl,.inl ⟨rfl,rfl⟩⟩
    | cons s p=>cases s <;> simp [get,step] at hp
   ·intro p q nd md u v b h1 h2 h3 h4 h5 h6 h7 h8
    cases p with
    | nil=>rw [h0] at h3; injection h3 with h3; subst h3; simp [blk] at h4
    | cons s p=>cases s <;> simp [get,step] at h1
   ·simp only [reGh,reH,hno,hk]
    cases v with
    | zero=>omega
    | succ v=>rfl
   ·simp only [reGh,reH,hno,hk]
    cases e with
    | zero=>omega
    | succ e=>rfl
  | _=>rw [hk] at hx; exact hx.elim
 | fz v d' =>
  rw [hk'] at hx hid
  have hno:(κ' i).isNo=false:=by rw [hk']; rfl
  cases hk:κ i with
  | tree V E d =>
   rw [hk] at hx hid
   simp only [subX] at hx
   obtain ⟨rfl,hx⟩:=hx
   have hi:i∈F:=hid i (by simp [fidsX])
   rw [hat i hno,if_pos hi,hk] at hb1
   obtain ⟨u,h1,h2,h3⟩:=hb1
   refine ⟨u,?_,h2,hx _ _ h3⟩
   simp only [reGh,reH,hno,hk]
   rw [nfv_fst m i V 0 E,(reH1_cur m (G1.H i) i V E (.el 0 0) []).1]
   exact h1
  | fz V d =>
   rw [hk] at hx
   simp only [subX] at hx
   obtain ⟨rfl,hx⟩:=hx
   have hbx:updl κc (frz κ F) i=.fz V d:=by rw [hat i hno,hk]; simp [Box.frozenOf]
   rw [hbx] at hb1
   obtain ⟨u,h1,h2,h3⟩:=hb1
   refine ⟨u,?_,h2,hx _ _ h3⟩
   simp only [reGh,reH,hno,hk]
   rw [(reH1_cur m (G1.H i) i V 0 (.el 0 0) []).1]
   exact h1
  | _=>rw [hk] at hx; exact hx.elim
 | rcd rc st l' =>
  rw [hk'] at hx hwf hid
  cases hk:κ i with
  | rcd rc0 st0 l =>
   rw [hk] at hx hid
   simp only [subX] at hx
   simp only [fidsX] at hid
   simp only [Box.wfc] at hwf
   obtain ⟨rfl,rfl,hx⟩:=hx
   have hb:=hf.box i
   rw [hag2 i (by rw [hk']; rfl),hk] at hb
   obtain ⟨b,fn,tmps,D,hb0,hw,hr⟩:=hb
   exact ⟨b,fn,tmps,D,by simp only [reGh,reβ,hk',Box.isNo,hβ]; exact hb0,hw,(subW_rel (m:=m) (κ:=κ) (κ':=κ') (w:=w) hle hβ hH hag1 hfz (SizeOf.sizeOf l'+1)).2 l' l tmps.toList (by omega) hx hwf hid hr⟩
  | _=>rw [hk] at hx; exact hx.elim
 | held =>
  rw [hk'] at hx
  cases hk:κ i with
  | held =>
   have hno:(κ' i).isNo=false:=by rw [hk']; rfl
   refine ⟨fun v hv e p=>?_,fun e he p=>?_⟩
   ·simp only [reGh,reH,hno,hk]
    exact reH1_hi (by rw [nfv_00]; exact hv) e p
   ·simp only [reGh,reH,hno,hk]
    have:=reH1_he (m:=m) (h:=G1.H i) (i:=i) (V:=0) (E:=0) (e:=e) (by rw [nfv_00]; exact he) p
    rw [nfv_00] at this
    exact this
  | _=>rw [hk] at hx; exact hx.elim
 | itr j' p' d' left' cur' =>
  rw [hk'] at hx
  cases hk:κ i with
  | itr j p d left cur =>
   rw [hk] at hx
   simp only [subX] at hx
   obtain ⟨rfl,rfl,rfl,rfl,hc,hh⟩:=hx
   obtain ⟨e1,e2⟩:=held_two hh
   have hno:(κ' i).isNo=false:=by rw [hk']; rfl
   rw [hat i hno,hk] at hb1
   simp only [Box.frozenOf,ite_self] at hb1
   obtain ⟨r,mb,es,clock,seen,ks,mm,hi⟩:=hb1
   have hhd:hdr (reGh m κ κ' G1).H j 0 0=hdr G1.H j 0 0:=hdr_held e1 (by rw [e2]; rfl)
   refine ⟨r,mb,es,clock,seen,ks,mm,by simp only [reGh,reβ,hno]; exact hi.bet,hi.it,by rw [hhd]; exact hi.tree,by rw [hhd]; exact hi.inj,hi.node,by rw [hhd]; exact hi.head,hi.map,hi.left,?_⟩
   rcases hc with rfl | rfl
   ·trivial
   ·exact hi.cur
  | _=>rw [hk] at hx; exact hx.elim
end
end Go.TM
