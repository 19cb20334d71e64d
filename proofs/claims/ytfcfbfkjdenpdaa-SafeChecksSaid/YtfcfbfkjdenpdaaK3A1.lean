import Derived.Test.YtfcfbfkjdenpdaaK3M13
import Derived.Test.YtfcfbfkjdenpdaaK3Tab
import Derived.KernelRfl
set_option linter.unusedVariables false
set_option linter.unusedSimpArgs false
set_option linter.unusedSectionVars false
namespace Go.Proofs.Ytfcfbfkjdenpdaa
open Go.TM
def noObj:Nat→Option Obj:=fun _=>none
def noDv:Nat→Option DV:=fun _=>none
theorem noOk:∀i x,noDv i=some x→∀M:Mem,(∀j o,noObj j=some o→M j=some o)→DRel M (.at x 0) (.pointer (some ⟨i,0,none⟩)):=fun _ _ h=>by cases h
instance noGlob:Glob where
 obj:=noObj
 dv:=noDv
 ok:=noOk
end Go.Proofs.Ytfcfbfkjdenpdaa
namespace Go.Proofs.Ytfcfbfkjdenpdaa
open Go.TM
abbrev I (n:Int):DV:=.int .i64 n
abbrev B (b:Bool):DV:=.bool b
abbrev Ints (l:List Int):DV:=.sl 1 (l.map I)
theorem le_int {a b:Int} {k:IntKind} (h:a=b):(DV.int k a).Le (.int k b):=h ▸ DV.Le.refl _
abbrev rf {d:DV}:d.Le d:=DV.Le.refl d
def InI (n:Int):Prop:=-9223372036854775808≤n∧n≤9223372036854775807
theorem subWs_dvs (m:Nat) (κ κ':Nat→Box):∀l:List DV,subWs m κ κ' (dvs l) (dvs l)
 | []=>trivial
 | d::r=>⟨DV.Le.refl d,subWs_dvs m κ κ' r⟩
theorem fzL_map {α:Type} {e:α→DV} (h:∀x,fzD (e x)=e x) (l:List α):fzL (l.map e)=l.map e:=by
 rw [fzL_eq,List.map_map]
 exact List.map_congr_left fun x _=>h x
theorem bw_t {b:Bool} (h:b=true):bw b true=true:=by subst h; rfl
theorem bif_t {a b:Bool} (h:(bif a then b else false)=true):a=true∧b=true:=by cases a <;> simp_all
theorem bif_f {a b:Bool} (h:(bif a then b else false)=false):¬ (a=true∧b=true):=by cases a <;> simp_all
structure Opt where
 party:Int
 next:Int
 put:List (Int × Int)
structure Giv where
 party:Int
 item:Int
 n:Int
structure Sta where
 name:ByteArray
 final:Bool
 opts:List Opt
 wait:Int
 late:Int
 gives:List Giv
structure Dea where
 name:ByteArray
 parties:List ByteArray
 states:List Sta
def eAmt (a:Int × Int):DV:=.agg [I a.1,I a.2]
def ePut (l:List (Int × Int)):DV:=.sl 2 (l.map eAmt)
def eOpt (o:Opt):DV:=.agg [I o.party,I o.next,ePut o.put]
def eGiv (g:Giv):DV:=.agg [I g.party,I g.item,I g.n]
def eSta (s:Sta):DV:=.agg [.str s.name,B s.final,.sl 3 (s.opts.map eOpt),I s.wait,I s.late,.sl 3 (s.gives.map eGiv)]
def eDea (d:Dea):DV:=.agg [.str d.name,.sl 1 (d.parties.map .str),.sl 6 (d.states.map eSta)]
structure Stp where
 label:Int
 party:Int
 next:Int
 put:List (Int × Int)
def eStp (s:Stp):DV:=.agg [I s.label,I s.party,I s.next,ePut s.put]
def okNext (d:Dea) (i:Int):Bool:=decide (0≤i) && decide (i<d.states.length)
def optSteps (d:Dea) (x:Sta):Nat→List Stp
 | 0=>[]
 | k+1=>match x.opts[k]? with
  | some o=>if okNext d o.next then optSteps d x k++[⟨k,o.party,o.next,o.put⟩] else optSteps d x k
  | none=>optSteps d x k
theorem by54:(nth tab (nth tab 54).elem).bytes=48:=rfl
theorem optSteps_len (d:Dea) (x:Sta):∀k,(optSteps d x k).length≤k
 | 0=>Nat.le_refl _
 | k+1=>by
  have:=optSteps_len d x k
  simp only [optSteps]
  split
  ·split
   ·simp; omega
   ·omega
  ·omega
def stepsOf (d:Dea) (x:Sta):List Stp :=
 (if x.final then [] else optSteps d x x.opts.length)++(if !x.final && decide (0<x.wait) && okNext d x.late then [⟨-1,-1,x.late,[]⟩] else [])
theorem steps_spec (d:Dea) (s:Nat) (x:Sta) (hx:d.states[s]?=some x) (ho:x.opts.length≤1000000):PSpec Try.prog 22 [eDea d,I s] [.sl 4 ((stepsOf d x).map eStp)]:=by
 refine pspec_of tab_ok mixed (calls_snd _) (range_snd _) Try.func22 rfl (by kernel_rfl) rfl ?_
 refine ⟨eSta x,fun _=>⟨by omega,by simp [hx]⟩,?_⟩
 refine ⟨Nat,fun k=>⟨3,[(2,.ptr 0 0),(5,.own 2 0 0 []),(6,.ptr 1 0),(7,.dv (I k))],[(0,.cells (dvs [.str d.name,.sl 1 (d.parties.map .str),.sl 6 (d.states.map eSta)])),(1,.cells (dvs (eSta x).cells)),(2,.tree 0 0 (.osl 4 ((optSteps d x k).map eStp)))]⟩,
  fun k=>k≤x.opts.length∧(x.final=true→k=0),fun k=>x.opts.length - k,0,fun _=>rfl,?_,⟨by omega,fun _=>rfl⟩,?_⟩
 ·exact ⟨⟨rfl,⟨rfl,rfl,rfl,rfl,4,rfl⟩,rfl,rf,tv⟩,⟨subWs_dvs _ _ _ _,subWs_dvs _ _ _ (eSta x).cells,⟨rfl,rfl,4,rfl⟩,tv⟩,rfl,rfl⟩
 ·rintro k ⟨hk1,hk2⟩
  refine ⟨id,id,fun _ h=>bw_t h,fun h=>?_,fun h=>?_⟩
  ·obtain ⟨h1,h2⟩:=bif_t h
   have hk:k<x.opts.length:=by simpa using h1
   have hf:x.final=false:=by simpa using h2
   refine ⟨eOpt x.opts[k],fun _=>⟨by omega,by simp [hk]⟩,?_⟩
   refine ⟨id,id,id,id,id,fun _ h=>bw_t h,fun h=>?_,fun h=>?_⟩
   ·obtain ⟨h3,h4⟩:=bif_t h
    have hok:okNext d x.opts[k].next=true:=by simp only [okNext,h3,Bool.true_and]; simpa using h4
    have hlen:(optSteps d x k).length≤k:=optSteps_len d x k
    refine .inl ⟨[eStp ⟨k,x.opts[k].party,x.opts[k].next,x.opts[k].put⟩],rfl,⟨rf,rf,rf,rf,tv⟩,fun y hy=>(by rcases List.mem_singleton.1 hy with rfl; rfl),.inr ⟨[eStp ⟨k,x.opts[k].party,x.opts[k].next,x.opts[k].put⟩],ELes.refl _,(by rw [by54]; simp; omega),(by simp; omega),?_⟩⟩
    refine ⟨fun _=>⟨by omega,by omega⟩,k+1,⟨⟨rfl,rfl,rfl,le_int (by omega),tv⟩,⟨subWs_dvs _ _ _ _,subWs_dvs _ _ _ (eSta x).cells,⟨rfl,?_⟩,tv⟩,rfl,rfl⟩,⟨by omega,fun hh=>by rw [hf] at hh; cases hh⟩,?_⟩
    ·simp [optSteps,hk,hok]
    ·show x.opts.length - (k+1)<x.opts.length - k
     omega
   ·have hok:okNext d x.opts[k].next=false:=by
     have:=bif_f h
     cases hh:okNext d x.opts[k].next with
     | false=>rfl
     | true =>
      simp only [okNext,Bool.and_eq_true] at hh
      exact absurd ⟨hh.1,by simpa using hh.2⟩ this
    refine ⟨fun _=>⟨by omega,by omega⟩,k+1,⟨⟨rfl,rfl,rfl,le_int (by omega),tv⟩,⟨subWs_dvs _ _ _ _,subWs_dvs _ _ _ (eSta x).cells,⟨rfl,?_⟩,tv⟩,rfl,rfl⟩,⟨by omega,fun hh=>by rw [hf] at hh; cases hh⟩,?_⟩
    ·simp [optSteps,hk,hok]
    ·show x.opts.length - (k+1)<x.opts.length - k
     omega
  ·have hend:optSteps d x k=if x.final then [] else optSteps d x x.opts.length:=by
    cases hf:x.final with
    | true=>rw [hk2 hf]; rfl
    | false =>
     have:=bif_f h
     have hk:k=x.opts.length:=by
      by_cases hk:k<x.opts.length
      ·exact absurd ⟨by simpa using hk,by simp [hf]⟩ this
      ·omega
     rw [hk]; rfl
   refine ⟨id,id,fun _ h=>bw_t h,id,id,fun _ h=>bw_t h,id,id,id,id,id,fun _ h=>bw_t h,fun h=>?_,fun h=>?_⟩
   ·have hw:(!x.final && decide (0<x.wait) && okNext d x.late)=true:=by
     obtain ⟨h1,h2⟩:=bif_t h
     obtain ⟨h3,h4⟩:=bif_t h1
     obtain ⟨h5,h6⟩:=bif_t h3
     simp only [okNext,h5,h6,h4,Bool.true_and]
     simpa using h2
    have hlen:(optSteps d x k).length≤k:=optSteps_len d x k
    refine .inl ⟨[eStp ⟨-1,-1,x.late,[]⟩],rfl,⟨rf,rf,rf,DV.nils_le 2,tv⟩,fun y hy=>(by rcases List.mem_singleton.1 hy with rfl; rfl),.inr ⟨[eStp ⟨-1,-1,x.late,[]⟩],ELes.refl _,(by rw [by54]; simp; omega),(by simp; omega),?_⟩⟩
    refine ⟨DV.Le.of_eq ?_,tv⟩
    show DV.sl 4 (fzL ((optSteps d x k).map eStp++[eStp ⟨-1,-1,x.late,[]⟩]))=_
    have e:(optSteps d x k).map eStp++[eStp ⟨-1,-1,x.late,[]⟩]=(stepsOf d x).map eStp:=by
     simp only [stepsOf,hw,if_true,←hend,List.map_append,List.map_cons,List.map_nil]
    rw [e,fzL_map fun _=>rfl]
   ·have hw:(!x.final && decide (0<x.wait) && okNext d x.late)=false:=by
     cases hh:!x.final && decide (0<x.wait) && okNext d x.late with
     | false=>rfl
     | true =>
      simp only [Bool.and_eq_true,okNext] at hh
      have:=bif_f h
      refine absurd ⟨?_,by simpa using hh.2.2⟩ this
      rw [hh.1.1,hh.1.2,hh.2.1]; rfl
    refine ⟨DV.Le.of_eq ?_,tv⟩
    show DV.sl 4 (fzL ((optSteps d x k).map eStp))=_
    have e:(optSteps d x k).map eStp=(stepsOf d x).map eStp:=by
     simp only [stepsOf,hw,←hend,Bool.false_eq_true,if_false,List.append_nil]
    rw [e,fzL_map fun _=>rfl]
end Go.Proofs.Ytfcfbfkjdenpdaa
namespace Go.Proofs.Ytfcfbfkjdenpdaa
open Go.TM
theorem by22:(nth tab (nth tab 22).elem).bytes=8:=rfl
theorem by26:(nth tab (nth tab 26).elem).bytes=24:=rfl
def idxOf (l:List Int) (n:Int):Int:=match l.findIdx? (· == n) with | some i=>i | none=>-1
theorem index_spec (l:List Int) (n:Int) (hl:l.length≤1000000000000):PSpec Try.prog 43 [Ints l,I n] [I (idxOf l n)]:=by
 refine pspec_of tab_ok mixed (calls_snd _) (range_snd _) Try.func43 rfl (by kernel_rfl) rfl ?_
 refine ⟨Nat,fun k=>⟨0,[(0,.dv (Ints l)),(1,.dv (I n)),(5,.dv (I k))],[]⟩,fun k=>k≤l.length∧∀i<k,l[i]? ≠ some n,fun k=>l.length - k,0,fun _=>rfl,⟨⟨rf,rf,rf,tv⟩,tv,rfl,rfl⟩,⟨by omega,by omega⟩,?_⟩
 rintro k ⟨hk1,hk2⟩
 refine ⟨fun h=>?_,fun h=>?_⟩
 ·have hk:k<l.length:=by simpa using h
  refine ⟨I l[k],fun _=>⟨by omega,by simp⟩,?_⟩
  refine ⟨fun h=>?_,fun h=>?_⟩
  ·have hn:l[k]=n:=by simpa using h
   refine ⟨le_int ?_,tv⟩
   have:l.findIdx? (· == n)=some k:=by
    rw [List.findIdx?_eq_some_iff_getElem]
    refine ⟨hk,by simpa using hn,fun j hj=>?_⟩
    have h1:=hk2 j hj
    rw [List.getElem?_eq_getElem (by omega)] at h1
    simpa using h1
   simp [idxOf,this]
  ·have hn:l[k] ≠ n:=by simpa using h
   refine ⟨fun _=>⟨by omega,by omega⟩,k+1,⟨⟨rf,rf,le_int (by omega),tv⟩,tv,rfl,rfl⟩,⟨by omega,fun i hi=>?_⟩,?_⟩
   ·by_cases e:i=k
    ·subst e; rw [List.getElem?_eq_getElem hk]; simpa using hn
    ·exact hk2 i (by omega)
   ·show l.length - (k+1)<l.length - k
    omega
 ·have hk:k=l.length:=by
   have:¬ k<l.length:=by simpa using h
   omega
  refine ⟨le_int ?_,tv⟩
  have:l.findIdx? (· == n)=none:=by
   rw [List.findIdx?_eq_none_iff]
   intro x hx
   obtain ⟨i,hi⟩:=List.getElem?_of_mem hx
   have hlt:i<l.length:=(List.getElem?_eq_some_iff.1 hi).1
   have:=hk2 i (by omega)
   rw [hi] at this
   simpa using this
  simp [idxOf,this]
theorem longer_spec (l:List Int) (n:Int) (hl:l.length≤1000000000000):PSpec Try.prog 62 [Ints l,I n] [Ints (l++[n])]:=by
 refine pspec_of tab_ok mixed (calls_snd _) (range_snd _) Try.func62 rfl (by kernel_rfl) rfl ?_
 refine .inr ⟨l.map I,ELes.refl _,(by rw [by22]; simp; omega),(by simp; omega),?_⟩
 refine .inl ⟨[I n],rfl,⟨rf,tv⟩,fun y hy=>(by rcases List.mem_singleton.1 hy with rfl; rfl),.inr ⟨[I n],ELes.refl _,(by rw [by22]; simp; omega),(by simp; omega),?_⟩⟩
 refine ⟨DV.Le.of_eq ?_,tv⟩
 show DV.sl 1 (fzL (l.map I++[I n]))=DV.sl 1 ((l++[n]).map I)
 have e:l.map I++[I n]=(l++[n]).map I:=by simp
 rw [e,fzL_map fun _=>rfl]
theorem same_spec (a b:List Int) (hl:a.length≤1000000000000):PSpec Try.prog 20 [Ints a,Ints b] [B (a == b)]:=by
 refine pspec_of tab_ok mixed (calls_snd _) (range_snd _) Try.func20 rfl (by kernel_rfl) rfl ?_
 refine ⟨fun h=>?_,fun h=>?_⟩
 ·refine ⟨DV.Le.of_eq ?_,tv⟩
  have hne:a.length ≠ b.length:=by
   intro e
   simp [e] at h
  have:(a == b)=false:=by
   rw [beq_eq_false_iff_ne]
   intro e; exact hne (by rw [e])
  rw [this]
 ·have he:a.length=b.length:=by
   simp at h; omega
  refine ⟨Nat,fun k=>⟨0,[(0,.dv (Ints a)),(1,.dv (Ints b)),(5,.dv (I k))],[]⟩,fun k=>k≤a.length∧∀i<k,a[i]?=b[i]?,fun k=>a.length - k,0,fun _=>rfl,⟨⟨rf,rf,rf,tv⟩,tv,rfl,rfl⟩,⟨by omega,by omega⟩,?_⟩
  rintro k ⟨hk1,hk2⟩
  refine ⟨fun h=>?_,fun h=>?_⟩
  ·have hk:k<a.length:=by simpa using h
   refine ⟨I a[k],fun _=>⟨by omega,by simp⟩,I (b[k]'(by omega)),fun _=>⟨by omega,by simp⟩,rfl,?_⟩
   refine ⟨fun h=>?_,fun h=>?_⟩
   ·have hn:a[k] ≠ b[k]'(by omega):=by simpa using h
    refine ⟨DV.Le.of_eq ?_,tv⟩
    have:(a == b)=false:=by
     rw [beq_eq_false_iff_ne]
     intro e; subst e; exact hn rfl
    rw [this]
   ·have hn:a[k]=b[k]'(by omega):=by simpa using h
    refine ⟨fun _=>⟨by omega,by omega⟩,k+1,⟨⟨rf,rf,le_int (by omega),tv⟩,tv,rfl,rfl⟩,⟨by omega,fun i hi=>?_⟩,?_⟩
    ·by_cases e:i=k
     ·subst e; rw [List.getElem?_eq_getElem hk,List.getElem?_eq_getElem (by omega),hn]
     ·exact hk2 i (by omega)
    ·show a.length - (k+1)<a.length - k
     omega
  ·have hk:k=a.length:=by
    have:¬ k<a.length:=by simpa using h
    omega
   refine ⟨DV.Le.of_eq ?_,tv⟩
   have:a=b:=by
    apply List.ext_getElem?
    intro i
    by_cases hi:i<a.length
    ·exact hk2 i (by omega)
    ·rw [List.getElem?_eq_none (by omega),List.getElem?_eq_none (by omega)]
   rw [beq_iff_eq.2 this]
def around (n m:Int):Int:=(if n<0 then -(n+1) else n).tmod m
theorem around_spec (n m:Int) (hn:InI n) (hm:1≤m):PSpec Try.prog 9 [I n,I m] [I (around n m)]:=by
 refine pspec_of tab_ok mixed (calls_snd _) (range_snd _) Try.func9 rfl (by kernel_rfl) rfl ?_
 unfold InI at hn
 refine ⟨fun h=>?_,fun h=>?_⟩
 ·have h':n<0:=by simpa using h
  refine ⟨fun _=>by omega,fun _=>by omega,fun _=>by omega,le_int ?_,tv⟩
  simp [around,h']
 ·have h':¬ n<0:=by simpa using h
  refine ⟨fun _=>by omega,le_int ?_,tv⟩
  simp [around,h']
theorem around_bd (n m:Int) (hm:1≤m):0≤around n m∧around n m<m:=by
 unfold around
 split
 ·exact ⟨Int.tmod_nonneg _ (by omega),Int.tmod_lt_of_pos _ (by omega)⟩
 ·exact ⟨Int.tmod_nonneg _ (by omega),Int.tmod_lt_of_pos _ (by omega)⟩
def pick (l:List Int) (i m:Int):Int:=if i<0 then 0 else match l[i.toNat]? with | some x=>around x m | none=>0
theorem pick_spec (l:List Int) (i m:Int) (hl:∀x,x∈l→InI x) (hm:1≤m):PSpec Try.prog 48 [Ints l,I i,I m] [I (pick l i m)]:=by
 refine pspec_of tab_ok mixed (calls_snd _) (range_snd _) Try.func48 rfl (by kernel_rfl) rfl ?_
 refine ⟨id,id,id,?_,fun h=>?_,fun h=>?_⟩
 ·exact fun _ h=>by simp [bw,h]
 ·refine ⟨le_int ?_,tv⟩
  unfold pick
  split
  ·rfl
  ·rename_i hi
   have:(l.length:Int)≤i:=by simpa [hi] using h
   rw [List.getElem?_eq_none (by omega)]
 ·have hi:¬ i<0:=fun hi=>by simp [hi] at h
  have hi2:¬ (l.length:Int)≤i:=fun hi2=>by simp [hi2] at h
  have hlt:i.toNat<l.length:=by omega
  refine ⟨I l[i.toNat],fun _=>⟨by omega,by simp [hlt]⟩,?_⟩
  refine .inl ⟨_,fun _=>(around_spec _ m (hl _ (by simp)) hm).ok,le_int ?_,tv⟩
  unfold pick
  rw [if_neg hi,List.getElem?_eq_getElem hlt]
theorem pick_bd (l:List Int) (i m:Int) (hm:1≤m):0≤pick l i m∧pick l i m<m:=by
 unfold pick
 split
 ·omega
 ·split
  ·exact around_bd _ m hm
  ·omega
end Go.Proofs.Ytfcfbfkjdenpdaa
namespace Go.Proofs.Ytfcfbfkjdenpdaa
open Go.TM
structure Bfs where
 order:List Int
 ways:List (List Int)
def addStep (way:List Int) (w:Bfs) (s:Stp):Bfs:=if s.next∈w.order then w else ⟨w.order++[s.next],w.ways++[way++[s.label]]⟩
def proc (d:Dea) (i:Nat) (w:Bfs):Bfs:=match w.order[i]?,w.ways[i]? with
 | some s,some way=>match d.states[s.toNat]? with
  | some x=>(stepsOf d x).foldl (addStep way) w
  | none=>w
 | _,_=>w
def bfsAt (d:Dea):Nat→Bfs
 | 0=>⟨[0],[[]]⟩
 | i+1=>proc d i (bfsAt d i)
def disc (d:Dea):Bfs:=match d.states with
 | []=>⟨[],[]⟩
 | _=>bfsAt d d.states.length
structure BOk (d:Dea) (w:Bfs):Prop where
 len:w.ways.length=w.order.length
 rng:∀s,s∈w.order→0≤s∧s<d.states.length
 nod:w.order.Nodup
 way:∀v,v∈w.ways→v.length≤w.order.length
theorem len_le:∀(N:Nat) (l:List Nat),l.Nodup→(∀x,x∈l→x<N)→l.length≤N
 | 0,l,_,h=>by
  cases l with
  | nil=>simp
  | cons x r=>have:=h x (by simp); omega
 | N+1,l,hn,h=>by
  by_cases hm:N∈l
  ·have h1:=len_le N (l.erase N) (hn.erase N) (fun x hx=>by
    have h2:=h x (List.mem_of_mem_erase hx)
    have h3:x ≠ N:=fun e=>by
     subst e
     exact (List.Nodup.not_mem_erase hn) hx
    omega)
   rw [List.length_erase_of_mem hm] at h1
   have:0<l.length:=List.length_pos_of_mem hm
   omega
  ·have h1:=len_le N l hn (fun x hx=>by
    have h2:=h x hx
    have h3:x ≠ N:=fun e=>hm (e ▸ hx)
    omega)
   omega
theorem BOk.le {d:Dea} {w:Bfs} (h:BOk d w):w.order.length≤d.states.length:=by
 have hn:(w.order.map Int.toNat).Nodup:=by
  have hinj:∀a,a∈w.order→∀b,b∈w.order→a.toNat=b.toNat→a=b:=fun a ha b hb e=>by
   have h1:=h.rng a ha
   have h2:=h.rng b hb
   omega
  have key:∀l:List Int,l.Nodup→(∀a,a∈l→a∈w.order)→(l.map Int.toNat).Nodup:=by
   intro l
   induction l with
   | nil=>intro _ _; exact List.nodup_nil
   | cons x r ih =>
    intro hn hs
    rw [List.map_cons,List.nodup_cons]
    obtain ⟨h1,h2⟩:=List.nodup_cons.1 hn
    refine ⟨fun hm=>?_,ih h2 fun a ha=>hs a (by simp [ha])⟩
    obtain ⟨y,hy,e⟩:=List.mem_map.1 hm
    have:=hinj y (hs y (by simp [hy])) x (hs x (by simp)) e
    subst this
    exact h1 hy
  exact key _ h.nod fun a ha=>ha
 have:=len_le d.states.length (w.order.map Int.toNat) hn (fun x hx=>by
  obtain ⟨y,hy,e⟩:=List.mem_map.1 hx
  have:=h.rng y hy
  omega)
 simpa using this
theorem optSteps_next (d:Dea) (x:Sta):∀k s,s∈optSteps d x k→okNext d s.next=true
 | 0,s,h=>by simp [optSteps] at h
 | k+1,s,h=>by
  simp only [optSteps] at h
  split at h
  ·split at h
   ·rename_i o ho hok
    rcases List.mem_append.1 h with h | h
    ·exact optSteps_next d x k s h
    ·rcases List.mem_singleton.1 h with rfl; exact hok
   ·exact optSteps_next d x k s h
  ·exact optSteps_next d x k s h
theorem stepsOf_next {d:Dea} {x:Sta} {s:Stp} (h:s∈stepsOf d x):0≤s.next∧s.next<d.states.length:=by
 have h1:okNext d s.next=true:=by
  unfold stepsOf at h
  rcases List.mem_append.1 h with h | h
  ·split at h
   ·simp at h
   ·exact optSteps_next d x _ s h
  ·split at h
   ·rename_i hc
    rcases List.mem_singleton.1 h with rfl
    simp only [Bool.and_eq_true] at hc
    exact hc.2
   ·simp at h
 simpa [okNext] using h1
theorem stepsOf_len (d:Dea) (x:Sta):(stepsOf d x).length≤x.opts.length+1:=by
 unfold stepsOf
 have:=optSteps_len d x x.opts.length
 split <;> split <;> simp <;> omega
theorem BOk.add {d:Dea} {w:Bfs} (h:BOk d w) {way:List Int} (hw:way.length≤w.order.length) {s:Stp} (hs:0≤s.next∧s.next<d.states.length):BOk d (addStep way w s)∧w.order.length≤(addStep way w s).order.length:=by
 unfold addStep
 split
 ·exact ⟨h,Nat.le_refl _⟩
 ·rename_i hn
  refine ⟨⟨by simp [h.len],fun t ht=>?_,?_,fun v hv=>?_⟩,by simp⟩
  ·rcases List.mem_append.1 ht with ht | ht
   ·exact h.rng t ht
   ·rcases List.mem_singleton.1 ht with rfl; exact hs
  ·rw [List.nodup_append]
   refine ⟨h.nod,by simp,fun a ha b hb e=>?_⟩
   rcases List.mem_singleton.1 hb with rfl
   subst e; exact hn ha
  ·simp only [List.length_append,List.length_cons,List.length_nil]
   rcases List.mem_append.1 hv with hv | hv
   ·have:=h.way v hv; omega
   ·rcases List.mem_singleton.1 hv with rfl; simp; omega
theorem BOk.fold {d:Dea} {way:List Int}:∀(l:List Stp) {w:Bfs},BOk d w→way.length≤w.order.length→(∀s,s∈l→0≤s.next∧s.next<d.states.length)→BOk d (l.foldl (addStep way) w)∧w.order.length≤(l.foldl (addStep way) w).order.length
 | [],w,h,_,_=>⟨h,Nat.le_refl _⟩
 | s::l,w,h,hw,hs=>by
  obtain ⟨h1,h2⟩:=h.add hw (hs s (by simp))
  obtain ⟨h3,h4⟩:=BOk.fold (way:=way) l h1 (by omega) fun t ht=>hs t (by simp [ht])
  exact ⟨h3,by simp only [List.foldl_cons]; omega⟩
theorem addStep_pre (way:List Int) (w:Bfs) (s:Stp):∃e f,(addStep way w s).order=w.order++e∧(addStep way w s).ways=w.ways++f:=by
 unfold addStep
 split
 ·exact ⟨[],[],by simp,by simp⟩
 ·exact ⟨_,_,rfl,rfl⟩
theorem fold_pre (way:List Int):∀(l:List Stp) (w:Bfs),∃e f,(l.foldl (addStep way) w).order=w.order++e∧(l.foldl (addStep way) w).ways=w.ways++f
 | [],w=>⟨[],[],by simp,by simp⟩
 | s::l,w=>by
  obtain ⟨e,f,h1,h2⟩:=addStep_pre way w s
  obtain ⟨e',f',h3,h4⟩:=fold_pre way l (addStep way w s)
  exact ⟨e++e',f++f',by simp only [List.foldl_cons]; rw [h3,h1,List.append_assoc],by simp only [List.foldl_cons]; rw [h4,h2,List.append_assoc]⟩
theorem proc_ok {d:Dea} {w:Bfs} (h:BOk d w) (i:Nat):BOk d (proc d i w):=by
 unfold proc
 split
 ·rename_i s way h1 h2
  split
  ·exact (BOk.fold _ h (h.way _ (List.mem_of_getElem? h2)) fun t ht=>stepsOf_next ht).1
  ·exact h
 ·exact h
theorem bfsAt_ok (d:Dea) (hd:d.states ≠ []):∀i,BOk d (bfsAt d i)
 | 0=>⟨rfl,fun s hs=>by
   have:s=0:=by simpa [bfsAt] using hs
   have:=List.length_pos_iff.2 hd
   omega,by simp [bfsAt],fun v hv=>by
   have:v=[]:=by simpa [bfsAt] using hv
   subst this; simp⟩
 | i+1=>proc_ok (bfsAt_ok d hd i) i
theorem bfsAt_stop (d:Dea) {i:Nat} (h:(bfsAt d i).order.length≤i):∀j,bfsAt d (i+j)=bfsAt d i
 | 0=>rfl
 | j+1=>by
  have ih:=bfsAt_stop d h j
  show proc d (i+j) (bfsAt d (i+j))=bfsAt d i
  rw [ih]
  unfold proc
  rw [List.getElem?_eq_none (by omega)]
theorem idx_neg (l:List Int) (n:Int):decide (idxOf l n<0)=decide (n ∉ l):=by
 unfold idxOf
 by_cases h:n∈l
 ·have:(l.findIdx? (· == n)).isSome:=by
   rw [List.findIdx?_isSome]
   simp [h]
  obtain ⟨i,hi⟩:=Option.isSome_iff_exists.1 this
  simp [hi,h]
 ·have:l.findIdx? (· == n)=none:=by
   rw [List.findIdx?_eq_none_iff]
   intro x hx
   simp only [beq_eq_false_iff_ne]
   rintro rfl; exact h hx
  simp [this,h]
structure Small (d:Dea):Prop where
 states:d.states.length≤1000
 opts:∀x,x∈d.states→x.opts.length≤1000
def dcells (d:Dea):List DV:=[.str d.name,.sl 1 (d.parties.map .str),.sl 6 (d.states.map eSta)]
def eBfs (w:Bfs):DV:=.agg [Ints w.order,.sl 1 (w.ways.map Ints)]
def dK (d:Dea) (w:Bfs):Boxes:=[(0,.cells (dvs (dcells d))),(1,.cells (dvs [.nils,.nils])),(2,.cells [.own 3 0 0 [],.own 4 0 0 []]),(3,.tree 0 0 (.osl 1 (w.order.map I))),(4,.tree 0 0 (.osl 1 (w.ways.map Ints)))]
set_option maxHeartbeats 4000000 in
theorem discover_spec (d:Dea) (hs:Small d):PSpec Try.prog 34 [eDea d] [eBfs (disc d)]:=by
 refine pspec_of tab_ok mixed (calls_snd _) (range_snd _) Try.func34 rfl (by kernel_rfl) rfl ?_
 refine ⟨fun h=>?_,fun h=>?_⟩
 ·have hd:d.states=[]:=List.eq_nil_of_length_eq_zero (by simpa using h)
  refine ⟨?_,tv⟩
  have hdd:disc d=⟨[],[]⟩:=by unfold disc; rw [hd]
  rw [hdd]
  exact DV.agg_le ⟨DV.nils_le 1,DV.nils_le 1,tv⟩ (by simp [DV.isCell])
 ·refine .inr (.inl ⟨[I 0],rfl,⟨rf,tv⟩,fun y hy=>(by rcases List.mem_singleton.1 hy with rfl; rfl),?_⟩)
  refine .inr (.inl ⟨[Ints []],rfl,⟨DV.nils_le 1,tv⟩,fun y hy=>(by rcases List.mem_singleton.1 hy with rfl; rfl),?_⟩)
  refine ⟨Nat,fun i=>⟨5,[(1,.ptr 0 0),(2,.ptr 1 0),(3,.ptr 2 0),(4,.dv (I i))],dK d (bfsAt d i)⟩,fun i=>i≤(bfsAt d i).order.length,fun i=>d.states.length - i,0,fun _=>rfl,?_,by simp [bfsAt],?_⟩
  ·exact ⟨⟨rfl,rfl,rfl,rf,tv⟩,⟨subWs_dvs _ _ _ (dcells d),subWs_dvs _ _ _ [.nils,.nils],⟨rfl,rfl,tv⟩,⟨rfl,rfl⟩,⟨rfl,rfl⟩,tv⟩,rfl,rfl⟩
  ·intro i hi
   have hd:d.states ≠ []:=fun e=>by simp [e] at h
   have hb:=bfsAt_ok d hd i
   have hle:=hb.le
   have hsm:=hs.states
   refine ⟨fun h=>?_,fun h=>?_⟩
   ·have hlt:i<(bfsAt d i).order.length:=by simpa using h
    obtain ⟨h0,h1⟩:=hb.rng (bfsAt d i).order[i] (by simp)
    have hlt2:((bfsAt d i).order[i]).toNat<d.states.length:=by omega
    obtain ⟨x,hx⟩:∃x,d.states[((bfsAt d i).order[i]).toNat]?=some x:=⟨_,List.getElem?_eq_getElem hlt2⟩
    have hsp:=steps_spec d ((bfsAt d i).order[i]).toNat x hx (by have:=hs.opts x (List.mem_of_getElem? hx); omega)
    rw [Int.toNat_of_nonneg h0] at hsp
    refine ⟨fun _=>⟨by omega,by simpa using hlt⟩,I (bfsAt d i).order[i],fun _=>(by simp [hlt]),.inl ⟨_,fun _=>hsp.ok,rfl,?_⟩⟩
    have hwl:(bfsAt d i).ways.length=(bfsAt d i).order.length:=hb.len
    have hlw:i<(bfsAt d i).ways.length:=by omega
    generalize hway:(bfsAt d i).ways[i]=way
    have hwy:(bfsAt d i).ways[i]?=some way:=by rw [List.getElem?_eq_getElem hlw,hway]
    have hwlen:way.length≤(bfsAt d i).order.length:=hb.way _ (List.mem_of_getElem? hwy)
    have hol:x.opts.length≤1000:=hs.opts x (List.mem_of_getElem? hx)
    have hsl:=stepsOf_len d x
    have hpr:proc d i (bfsAt d i)=(stepsOf d x).foldl (addStep way) (bfsAt d i):=by
     unfold proc
     rw [List.getElem?_eq_getElem hlt,hwy]
     simp only [hx]
    refine ⟨Nat,fun k=>⟨5,[(1,.ptr 0 0),(2,.ptr 1 0),(3,.ptr 2 0),(4,.dv (I i)),(5,.dv (.sl 4 ((stepsOf d x).map eStp))),(6,.dv (I k))],dK d (((stepsOf d x).take k).foldl (addStep way) (bfsAt d i))⟩,fun k=>k≤(stepsOf d x).length,fun k=>(stepsOf d x).length - k,0,fun _=>rfl,?_,by omega,?_⟩
    ·exact ⟨⟨rfl,rfl,rfl,rf,rf,rf,tv⟩,⟨subWs_dvs _ _ _ (dcells d),subWs_dvs _ _ _ [.nils,.nils],⟨rfl,rfl,tv⟩,⟨rfl,rfl⟩,⟨rfl,rfl⟩,tv⟩,rfl,rfl⟩
    ·intro k hk
     obtain ⟨hbk,hgr⟩:=BOk.fold (way:=way) ((stepsOf d x).take k) hb hwlen fun t ht=>stepsOf_next (List.mem_of_mem_take ht)
     obtain ⟨e,f,hpe,hpf⟩:=fold_pre way ((stepsOf d x).take k) (bfsAt d i)
     generalize hwk:((stepsOf d x).take k).foldl (addStep way) (bfsAt d i)=wk at *
     have hlk:=hbk.le
     refine ⟨fun h=>?_,fun h=>?_⟩
     ·have hk:k<(stepsOf d x).length:=by simpa using h
      generalize hst:(stepsOf d x)[k]=st
      have hsnx:=stepsOf_next (d:=d) (x:=x) (s:=st) (by rw [←hst]; exact List.getElem_mem hk)
      refine ⟨eStp st,fun _=>⟨by omega,by simp [hk,hst]⟩,?_⟩
      have hix:CallOk Try.prog 43 [.sl 1 (fzL (wk.order.map I)),I st.next] [I (idxOf wk.order st.next)]:=by
       rw [fzL_map (e:=I) fun _=>rfl]
       exact (index_spec wk.order st.next (by omega)).ok
      rw [←hwk] at hix
      refine .inl (.inl ⟨_,fun _=>hix,rfl,?_⟩)
      refine ⟨rfl,fun h=>?_,fun h=>?_⟩
      ·have hni:st.next ∉ wk.order:=by
        rw [hwk] at h
        have h2:=idx_neg wk.order st.next
        rw [show decide (idxOf wk.order st.next<0)=true from h] at h2
        simpa using h2.symm
       have hnx:((stepsOf d x).take (k+1)).foldl (addStep way) (bfsAt d i)=⟨wk.order++[st.next],wk.ways++[way++[st.label]]⟩:=by
        rw [List.take_add_one,List.getElem?_eq_getElem hk,hst,List.foldl_append,hwk]
        show addStep way wk st=_
        unfold addStep
        rw [if_neg hni]
       have hwl2:wk.ways.length=wk.order.length:=hbk.len
       refine ⟨eStp st,fun _=>⟨by omega,by simp [hk,hst]⟩,.inl ⟨[I st.next],rfl,⟨rf,tv⟩,fun y hy=>(by rcases List.mem_singleton.1 hy with rfl; rfl),?_⟩⟩
       refine .inr ⟨[I st.next],ELes.refl _,(by rw [by22,hwk]; simp; omega),(by rw [hwk]; simp; omega),rfl,?_⟩
       have hgi:wk.ways[i]?=some way:=by rw [hpf,List.getElem?_append_left hlw,hwy]
       refine ⟨fun _=>⟨by omega,by rw [hwk]; simp; omega⟩,Ints way,fun _=>(by rw [hwk]; simp [hgi]),?_⟩
       refine ⟨eStp st,fun _=>⟨by omega,by simp [hk,hst]⟩,.inl ⟨_,fun _=>(longer_spec way st.label (by omega)).ok,?_⟩⟩
       refine .inl ⟨[Ints (way++[st.label])],rfl,⟨rf,tv⟩,fun y hy=>(by rcases List.mem_singleton.1 hy with rfl; rfl),?_⟩
       refine .inr ⟨[Ints (way++[st.label])],ELes.refl _,(by rw [by26,hwk]; simp; omega),(by rw [hwk]; simp; omega),?_⟩
       refine ⟨by kernel_rfl,?_⟩
       refine ⟨fun _=>⟨by omega,by omega⟩,?_⟩
       refine ⟨k+1,⟨⟨rfl,rfl,rfl,rf,rf,rf,tv⟩,⟨subWs_dvs _ _ _ (dcells d),subWs_dvs _ _ _ [.nils,.nils],⟨rfl,rfl,tv⟩,⟨rfl,?_⟩,⟨rfl,?_⟩,tv⟩,rfl,rfl⟩,by omega,by dsimp only; omega⟩
       ·rw [hnx,hwk]; simp
       ·rw [hnx,hwk]; simp
      ·have hmi:st.next∈wk.order:=by
        rw [hwk] at h
        have h2:=idx_neg wk.order st.next
        rw [show decide (idxOf wk.order st.next<0)=false from h] at h2
        simpa using h2.symm
       have hnx:((stepsOf d x).take (k+1)).foldl (addStep way) (bfsAt d i)=wk:=by
        rw [List.take_add_one,List.getElem?_eq_getElem hk,hst,List.foldl_append,hwk]
        show addStep way wk st=_
        unfold addStep
        rw [if_pos hmi]
       refine ⟨fun _=>⟨by omega,by omega⟩,?_⟩
       refine ⟨k+1,⟨⟨rfl,rfl,rfl,rf,rf,rf,tv⟩,⟨subWs_dvs _ _ _ (dcells d),subWs_dvs _ _ _ [.nils,.nils],⟨rfl,rfl,tv⟩,⟨rfl,?_⟩,⟨rfl,?_⟩,tv⟩,rfl,rfl⟩,by omega,by dsimp only; omega⟩
       ·rw [hnx,hwk]
       ·rw [hnx,hwk]
     ·have hkk:k=(stepsOf d x).length:=by have:¬ k<(stepsOf d x).length:=by simpa using h
                                          omega
      refine ⟨fun _=>⟨by omega,by omega⟩,?_⟩
      have hnx:bfsAt d (i+1)=wk:=by
       show proc d i (bfsAt d i)=wk
       rw [hpr,←hwk,hkk,List.take_length]
      refine ⟨i+1,⟨⟨rfl,rfl,rfl,rf,tv⟩,⟨subWs_dvs _ _ _ (dcells d),subWs_dvs _ _ _ [.nils,.nils],⟨rfl,rfl,tv⟩,⟨rfl,?_⟩,⟨rfl,?_⟩,tv⟩,rfl,rfl⟩,by dsimp only; rw [hnx]; omega,by dsimp only; omega⟩
      ·rw [hnx,hwk]
      ·rw [hnx,hwk]
   ·have hni:(bfsAt d i).order.length≤i:=by simpa using h
    refine ⟨DV.Le.of_eq ?_,tv⟩
    show DV.agg [.sl 1 (fzL ((bfsAt d i).order.map I)),.sl 1 (fzL ((bfsAt d i).ways.map Ints))]=_
    rw [fzL_map (e:=I) fun _=>rfl,fzL_map (e:=Ints) fun _=>rfl]
    have hdd:disc d=bfsAt d i:=by
     have h3:=bfsAt_stop d hni (d.states.length - i)
     rw [show i+(d.states.length - i)=d.states.length by omega] at h3
     unfold disc
     split
     ·rename_i e; exact absurd e hd
     ·exact h3
    rw [hdd]
    rfl
end Go.Proofs.Ytfcfbfkjdenpdaa
namespace Go.Proofs.Ytfcfbfkjdenpdaa
open Go.TM
theorem disc_ok (d:Dea):BOk d (disc d):=by
 unfold disc
 split
 ·exact ⟨rfl,fun s h=>by simp at h,List.nodup_nil,fun v h=>by simp at h⟩
 ·rename_i h
  exact bfsAt_ok d (fun e=>h e) _
def wayOf (d:Dea) (s:Int):Option (List Int):=match (disc d).order.findIdx? (· == s) with
 | some i=>(disc d).ways[i]?
 | none=>none
end Go.Proofs.Ytfcfbfkjdenpdaa
