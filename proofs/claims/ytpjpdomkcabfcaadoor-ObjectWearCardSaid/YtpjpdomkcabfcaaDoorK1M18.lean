import Derived.Test.YtpjpdomkcabfcaaDoorK1M17
set_option linter.unusedVariables false
set_option linter.unusedSimpArgs false
set_option linter.unusedSectionVars false
namespace Go.Proofs.YtpjpdomkcabfcaaDoor
open Go.TM
variable [KObj]
set_option maxRecDepth 100000
def stCn (i:Nat) (its:List Item):List AV:=[.dv (.sl 7 (its.map eItem)),.dv rulesD,.dv tabsD,.dv taxesD,.own i 0 0 []]
def bothK (b w:Int):Boxes:=[(3,.cells (stCn 2 (itemsL b w))),(2,.tree 0 0 (.omap pairK [])),(4,.cells (dvs [.sl 7 (itemsD (I b) (I w)),rulesD,tabsD,taxesD,.nils]))]
set_option maxHeartbeats 4000000 in
theorem both_spec (n k:Int):CSpec Tryd.prog 4 [.dv (I n),.dv (I k)] 0 [] 5 [.ptr 3 0,.ptr 4 0,.dv (B true)] (bothK (around n 3) (1+around k 40)):=by
 refine cspec_of tab_ok mixed (calls_snd _) (range_snd _) Tryd.func4 rfl rfl (by kernel_rfl) ?_
 refine .inl ⟨_,fun _=>cat_spec.ok,?_⟩
 refine .inl ⟨_,fun _=>(binding_spec 2 20 n k).ok,?_⟩
 have hn:=around_bd n 3 (by omega)
 have hk:=around_bd k 40 (by omega)
 refine .inr ⟨[],[ofD (catD (I (around n 3)) (I (1+around k 40)))],[],3,_,_,new_spec (by omega) (by omega),by kernel_rfl,by kernel_rfl,⟨⟨rf,rf,rf,rf,tv⟩,tv⟩,tv,?_⟩
 exact ⟨id,fun _=>bw_t,by kernel_rfl,_,_,⟨rfl,rfl⟩,by kernel_rfl,⟨rfl,rfl,rf,tv⟩,⟨rf,rf,rf,rf,rfl,tv⟩,⟨rfl,rfl⟩,⟨rf,rf,rf,rf,rf,tv⟩,tv⟩
theorem okS_one {its:List Item} {k:Ky} {x:Ob} (h:OkO its x):OkS its [(k,x)]:=by
 intro k' y hy
 simp only [oget] at hy
 split at hy
 ·injection hy with hy; subst hy; exact h
 ·cases hy
def lits:List Item:=itemsL 2 20
theorem lk:OkS lits [((7,0),⟨4,1,20,false⟩)]:=okS_one ⟨by decide,by decide,by decide,by decide,by decide⟩
theorem lk2:OkS lits [((7,0),⟨4,2,20,false⟩)]:=okS_one ⟨by decide,by decide,by decide,by decide,by decide⟩
theorem lk3:OkS lits [((7,0),⟨4,2,15,true⟩)]:=okS_one ⟨by decide,by decide,by decide,by decide,by decide⟩
theorem live_make:CSpec Tryd.prog 5 [.ptr 0 0,ofD (eKy (7,0)),.dv (I 4),.dv (I 1)] 2 (stK lits []) 0 [.dv (I 0)] (stK lits [((7,0),⟨4,1,20,false⟩)]):=make_spec lits [] (7,0) 4 1
theorem live_give:CSpec Tryd.prog 19 [.ptr 0 0,ofD (eKy (7,0)),.dv (I 1),.dv (I 2)] 2 (stK lits [((7,0),⟨4,1,20,false⟩)]) 0 [.dv (I 0)] (stK lits [((7,0),⟨4,2,20,false⟩)]):=giv_spec lits _ (7,0) 1 2 lk
theorem live_use1:CSpec Tryd.prog 8 [.ptr 0 0,ofD (eKy (7,0)),.dv (I 2),.dv (I 2),.dv (I 5)] 2 (stK lits [((7,0),⟨4,2,20,false⟩)]) 0 [.dv (I 12)] (stK lits [((7,0),⟨4,2,20,false⟩)]):=use_spec lits _ (7,0) 2 2 5 lk2
theorem live_use2:CSpec Tryd.prog 8 [.ptr 0 0,ofD (eKy (7,0)),.dv (I 2),.dv (I 3),.dv (I 5)] 2 (stK lits [((7,0),⟨4,2,20,false⟩)]) 0 [.dv (I 0)] (stK lits [((7,0),⟨4,2,15,true⟩)]):=use_spec lits _ (7,0) 2 3 5 lk2
theorem live_give2:CSpec Tryd.prog 19 [.ptr 0 0,ofD (eKy (7,0)),.dv (I 2),.dv (I 1)] 2 (stK lits [((7,0),⟨4,2,15,true⟩)]) 0 [.dv (I 11)] (stK lits [((7,0),⟨4,2,15,true⟩)]):=giv_spec lits _ (7,0) 2 1 lk3
theorem live_get:CSpec Tryd.prog 9 [.ptr 0 0,ofD (eKy (7,0))] 2 (stK lits [((7,0),⟨4,2,15,true⟩)]) 0 [ofD (eOb ⟨4,2,15,true⟩),.dv (B true)] (stK lits [((7,0),⟨4,2,15,true⟩)]):=get_spec lits _ (7,0)
set_option maxHeartbeats 4000000 in
theorem lives_spec:PSpec Tryd.prog 11 [] [B true]:=by
 refine pspec_of tab_ok mixed (calls_snd _) (range_snd _) Tryd.func11 rfl (by kernel_rfl) rfl ?_
 refine .inl ⟨_,fun _=>cat_spec.ok,?_⟩
 refine .inr ⟨[],[ofD (catD (I 2) (I 20))],[],3,_,_,new_spec (by omega) (by omega),by kernel_rfl,by kernel_rfl,⟨⟨rf,rf,rf,rf,tv⟩,tv⟩,tv,?_⟩
 repeat first | refine ⟨id,?_⟩ | refine ⟨fun _ h=>bw_f h,?_⟩ | refine ⟨fun _ h=>bw_t h,?_⟩ | refine ⟨fun h=>⟨h,fun h2=>bw_and h h2⟩,?_⟩ | refine ⟨fun h=>⟨h,fun h2=>bw_andf h h2⟩,?_⟩
 refine ⟨fun h=>(by cases h),fun _=>?_⟩
 refine .inr ⟨[2,1],[.ptr 0 0,ofD (eKy (7,0)),.dv (I 4),.dv (I 1)],stK lits [],0,_,_,live_make,by kernel_rfl,by kernel_rfl,⟨rfl,⟨rf,rf,tv⟩,rf,rf,tv⟩,⟨⟨rf,rf,rf,rf,rfl,tv⟩,⟨rfl,rfl⟩,tv⟩,?_⟩
 refine .inr ⟨[2,1],[.ptr 0 0,ofD (eKy (7,0)),.dv (I 1),.dv (I 2)],stK lits [((7,0),⟨4,1,20,false⟩)],0,_,_,live_give,by kernel_rfl,by kernel_rfl,⟨rfl,⟨rf,rf,tv⟩,rf,rf,tv⟩,⟨⟨rf,rf,rf,rf,rfl,tv⟩,⟨rfl,rfl⟩,tv⟩,?_⟩
 refine .inr ⟨[2,1],[.ptr 0 0,ofD (eKy (7,0)),.dv (I 2),.dv (I 2),.dv (I 5)],stK lits [((7,0),⟨4,2,20,false⟩)],0,_,_,live_use1,by kernel_rfl,by kernel_rfl,⟨rfl,⟨rf,rf,tv⟩,rf,rf,rf,tv⟩,⟨⟨rf,rf,rf,rf,rfl,tv⟩,⟨rfl,rfl⟩,tv⟩,?_⟩
 refine .inr ⟨[2,1],[.ptr 0 0,ofD (eKy (7,0)),.dv (I 2),.dv (I 3),.dv (I 5)],stK lits [((7,0),⟨4,2,20,false⟩)],0,_,_,live_use2,by kernel_rfl,by kernel_rfl,⟨rfl,⟨rf,rf,tv⟩,rf,rf,rf,tv⟩,⟨⟨rf,rf,rf,rf,rfl,tv⟩,⟨rfl,rfl⟩,tv⟩,?_⟩
 refine .inr ⟨[2,1],[.ptr 0 0,ofD (eKy (7,0)),.dv (I 2),.dv (I 1)],stK lits [((7,0),⟨4,2,15,true⟩)],0,_,_,live_give2,by kernel_rfl,by kernel_rfl,⟨rfl,⟨rf,rf,tv⟩,rf,rf,tv⟩,⟨⟨rf,rf,rf,rf,rfl,tv⟩,⟨rfl,rfl⟩,tv⟩,?_⟩
 refine .inr ⟨[2,1],[.ptr 0 0,ofD (eKy (7,0))],stK lits [((7,0),⟨4,2,15,true⟩)],0,_,_,live_get,by kernel_rfl,by kernel_rfl,⟨rfl,⟨rf,rf,tv⟩,tv⟩,⟨⟨rf,rf,rf,rf,rfl,tv⟩,⟨rfl,rfl⟩,tv⟩,?_⟩
 repeat first | refine ⟨id,?_⟩ | refine ⟨fun _ h=>bw_f h,?_⟩ | refine ⟨fun _ h=>bw_t h,?_⟩ | refine ⟨fun h=>⟨h,fun h2=>bw_and h h2⟩,?_⟩ | refine ⟨fun h=>⟨h,fun h2=>bw_andf h h2⟩,?_⟩
 exact ⟨rf,tv⟩
end Go.Proofs.YtpjpdomkcabfcaaDoor
namespace Go.Proofs.YtpjpdomkcabfcaaDoor
open Go.TM
variable [KObj]
set_option maxRecDepth 100000
def wm (left:Int):OM:=[((3,4),⟨4,1,left,false⟩)]
theorem wOk {w left:Int} (h0:0≤left) (h1:left≤w) (hw:w≤40):OkS (itemsL 0 w) (wm left):=okS_one ⟨by show (0:Int)≤4; decide,by show (4:Int)<5; decide,h0,h1,by show w≤1048576; omega⟩
theorem w_make {w:Int} (h1:1≤w):CSpec Tryd.prog 5 [.ptr 0 0,ofD (eKy (3,4)),.dv (I 4),.dv (I 1)] 2 (stK (itemsL 0 w) []) 0 [.dv (I 0)] (stK (itemsL 0 w) (wm w)):=by
 have h:=make_spec (itemsL 0 w) [] (3,4) 4 1
 have e0:makeX (itemsL 0 w) 4 1=⟨4,1,w,false⟩:=rfl
 have e1:putE (itemsL 0 w) [] (3,4) ⟨4,1,w,false⟩=0:=by
  have hn:¬ (w<0 ∨ w<w):=by omega
  have ht:typeOf (itemsL 0 w) 4=some ⟨⟨⟨[115,119,111,114,100]⟩⟩,true,false,false,w,0,3⟩:=rfl
  have hb:¬ (((3:Int),(4:Int)).1<0 ∨ ((3:Int),(4:Int)).2<0 ∨ 1099511627776≤((3:Int),(4:Int)).2 ∨ isOwner 1=false):=by decide
  show (if _ then _ else _)=_
  rw [if_neg hb]
  simp only [ht]
  rw [if_neg hn]
  rfl
 rw [e0,putM,e1,if_pos rfl] at h
 exact h
theorem w_get {w left:Int}:CSpec Tryd.prog 9 [.ptr 0 0,ofD (eKy (3,4))] 2 (stK (itemsL 0 w) (wm left)) 0 [ofD (eOb ⟨4,1,left,false⟩),.dv (B true)] (stK (itemsL 0 w) (wm left)):=get_spec (itemsL 0 w) (wm left) (3,4)
theorem w_rep {w left n:Int} (h0:0≤left) (h1:left≤w) (hw:w≤40) (hn:0≤n∧n<25):CSpec Tryd.prog 7 [.ptr 0 0,ofD (eKy (3,4)),.dv (I 1),.dv (I n)] 2 (stK (itemsL 0 w) (wm left)) 0 [.dv (I 0)] (stK (itemsL 0 w) (wm (if left+n<w then left+n else w))):=by
 have h:=rep_spec (itemsL 0 w) (wm left) (3,4) 1 n (wOk h0 h1 hw)
 have e1:repE (itemsL 0 w) (wm left) (3,4) 1 n=0:=by
  show (if ¬ (0:Int)=0 then (0:Int) else if n<0 ∨ 1048576<n then 1 else 0)=0
  rw [if_neg (by simp),if_neg (by omega)]
 rw [repM,e1,if_pos rfl] at h
 have e2:oput (wm left) (3,4) (repX (ownR (itemsL 0 w) (wm left) (3,4) 1).1 (ownR (itemsL 0 w) (wm left) (3,4) 1).2.1 n)=wm (if left+n<w then left+n else w):=by
  show wm (if w<left+n then w else left+n)=_
  congr 1
  split <;> split <;> omega
 rw [e2] at h
 exact h
theorem w_use {w left n:Int} (h0:0≤left) (h1:left≤w) (hw:w≤40) (hn:0≤n∧n<25):CSpec Tryd.prog 8 [.ptr 0 0,ofD (eKy (3,4)),.dv (I 1),.dv (I 3),.dv (I n)] 2 (stK (itemsL 0 w) (wm left)) 0 [.dv (I (if left<n then 10 else 0))] (stK (itemsL 0 w) (wm (if left<n then left else left - n))):=by
 have h:=use_spec (itemsL 0 w) (wm left) (3,4) 1 3 n (wOk h0 h1 hw)
 have e1:useE (itemsL 0 w) (wm left) (3,4) 1 3 n=if left<n then 10 else 0:=by
  show (if ¬ (0:Int)=0 then (0:Int) else if n<0 ∨ 1048576<n then 1 else if (3:Int)<3 then 12 else if left<n then 10 else 0)=_
  rw [if_neg (by simp),if_neg (by omega),if_neg (by omega)]
 rw [useM,e1] at h
 by_cases hl:left<n
 ·simp only [if_pos hl] at h ⊢
  exact h
 ·simp only [if_neg hl,if_true] at h ⊢
  exact h
theorem part_wear {w left:Int} (h0:0≤left) (h1:left≤w) (h2:1≤w) (hw:w≤40):PSpec Tryd.prog 10 [I w,I left,I w] [I left,I 0]:=by
 obtain ⟨a,rfl⟩:=Int.eq_ofNat_of_zero_le (show 0≤w by omega)
 obtain ⟨b,rfl⟩:=Int.eq_ofNat_of_zero_le h0
 have hm:a * b≤40 * 40:=Nat.mul_le_mul (by omega) (by omega)
 have hd:a * b / a=b:=Nat.mul_div_cancel_left b (by omega)
 have h:=part_spec a b a (by omega) (by omega) (by omega) (by omega) (by omega) (by omega)
 rw [hd] at h
 exact h
structure WI where
 i:Nat
 left:Int
def wInv (l:List Int) (w:Int):WI→AState
 | ⟨i,left⟩=>⟨6,[(1,.dv (Ints l)),(5,.ptr 3 0),(8,.dv (I w)),(9,.ptr 5 0),(10,.dv (I left)),(11,.dv (I i))],[(3,.cells (stCn 2 (itemsL 0 w))),(2,.tree 0 0 (.omap pairK ((wm left).map eEnt))),(5,.cells [.dv (I 3),.dv (I 4)])]⟩
set_option maxHeartbeats 4000000 in
theorem wear_spec (wear:Int) (l:List Int):PSpec Tryd.prog 3 [I wear,Ints l] [B true]:=by
 refine pspec_of tab_ok mixed (calls_snd _) (range_snd _) Tryd.func3 rfl (by kernel_rfl) rfl ?_
 have hk:=around_bd wear 40 (by omega)
 generalize hw:1+around wear 40=w
 have hb:=both_spec 0 wear
 rw [hw] at hb
 refine .inr ⟨[],[.dv (I 0),.dv (I wear)],[],5,_,_,hb,by kernel_rfl,by kernel_rfl,⟨rf,rf,tv⟩,tv,?_⟩
 repeat first | refine ⟨id,?_⟩ | refine ⟨fun _ h=>bw_f h,?_⟩ | refine ⟨fun _ h=>bw_t h,?_⟩ | refine ⟨fun h=>⟨h,fun h2=>bw_and h h2⟩,?_⟩ | refine ⟨fun h=>⟨h,fun h2=>bw_andf h h2⟩,?_⟩
 refine ⟨fun h=>(by cases h),fun _=>?_⟩
 refine ⟨_,fun _=>⟨by decide,rfl⟩,?_⟩
 refine .inr ⟨[3,2],[.ptr 0 0,ofD (eKy (3,4)),.dv (I 4),.dv (I 1)],stK (itemsL 0 w) [],0,_,_,w_make (by omega),by kernel_rfl,by kernel_rfl,⟨rfl,⟨rf,rf,tv⟩,rf,rf,tv⟩,⟨⟨rf,rf,rf,rf,rfl,tv⟩,⟨rfl,rfl⟩,tv⟩,?_⟩
 refine ⟨fun h=>(by cases h),fun _=>?_⟩
 refine ⟨WI,wInv l w,
  fun x=>x.i≤l.length∧0≤x.left∧x.left≤w,fun x=>l.length - x.i,⟨0,w⟩,fun ⟨_,_⟩=>rfl,⟨⟨rf,rfl,rf,rfl,rf,rf,tv⟩,⟨⟨rf,rf,rf,rf,rfl,tv⟩,⟨rfl,rfl⟩,⟨rf,rf,tv⟩,tv⟩,rfl,rfl⟩,⟨by show 0≤l.length; omega,by show 0≤w; omega,Int.le_refl _⟩,?_⟩
 rintro ⟨i,left⟩ ⟨hi,h0,h1⟩
 simp only at hi h0 h1
 repeat first | refine ⟨id,?_⟩ | refine ⟨fun _ h=>bw_f h,?_⟩ | refine ⟨fun _ h=>bw_t h,?_⟩ | refine ⟨fun h=>⟨h,fun h2=>bw_and h h2⟩,?_⟩ | refine ⟨fun h=>⟨h,fun h2=>bw_andf h h2⟩,?_⟩
 refine ⟨fun h=>?_,fun h=>?_⟩
 ·obtain ⟨hi1,hi2⟩:=bif_t h
  have hlt:i<l.length:=by simpa using hi1
  have hi3:(i:Int)<20:=of_decide_eq_true hi2
  have hg:(Ints l).cells=[Ints l]:=rfl
  have hl2:(l.map I)[(i:Int).toNat]?=some (I l[i]):=by simp [hlt]
  refine ⟨I l[i],fun _=>⟨by omega,hl2⟩,?_⟩
  have hn:=around_bd l[i] 25 (by omega)
  refine .inl ⟨_,fun _=>(around_spec l[i] 25 (by omega) (by omega)).ok,?_⟩
  generalize around l[i] 25=n at hn
  refine ⟨I l[i],fun _=>⟨by omega,hl2⟩,fun _=>by omega,fun h3=>?_,fun h3=>?_⟩
  ·refine .inr ⟨[3,2],[.ptr 0 0,ofD (eKy (3,4)),.dv (I 1),.dv (I n)],stK (itemsL 0 w) (wm left),0,_,_,w_rep h0 h1 (by omega) hn,by kernel_rfl,by kernel_rfl,⟨rfl,⟨rf,rf,tv⟩,rf,rf,tv⟩,⟨⟨rf,rf,rf,rf,rfl,tv⟩,⟨rfl,rfl⟩,tv⟩,?_⟩
   refine ⟨fun h=>(by cases h),fun _=>⟨fun _=>⟨by omega,by omega⟩,?_⟩⟩
   have hl0:0≤if left+n<w then left+n else w:=by split <;> omega
   have hl1:(if left+n<w then left+n else w)≤w:=by split <;> omega
   refine .inr ⟨[3,2],[.ptr 0 0,ofD (eKy (3,4))],stK (itemsL 0 w) (wm (if left+n<w then left+n else w)),0,_,_,w_get,by kernel_rfl,by kernel_rfl,⟨rfl,⟨rf,rf,tv⟩,tv⟩,⟨⟨rf,rf,rf,rf,rfl,tv⟩,⟨rfl,rfl⟩,tv⟩,?_⟩
   refine .inl ⟨_,fun _=>(part_wear (w:=w) (left:=(if left+n<w then left+n else w)) hl0 hl1 (by omega) (by omega)).ok,?_⟩
   repeat first | refine ⟨id,?_⟩ | refine ⟨fun _ h=>bw_f h,?_⟩ | refine ⟨fun _ h=>bw_t h,?_⟩ | refine ⟨fun h=>⟨h,fun h2=>bw_and h h2⟩,?_⟩ | refine ⟨fun h=>⟨h,fun h2=>bw_andf h h2⟩,?_⟩
   refine ⟨fun h=>?_,fun _=>?_⟩
   ·exfalso
    have e1:((if left+n<w then left+n else w) != (if left+n<w then left+n else w))=false:=by simp
    have e2:decide ((if left+n<w then left+n else w)<0)=false:=by simp; omega
    have e3:decide (w<(if left+n<w then left+n else w))=false:=by simp; omega
    simp only [e1,e2,e3,Bool.not_true,cond_false] at h
    exact absurd h (by decide)
   ·exact ⟨fun _=>⟨by omega,by omega⟩,⟨i+1,(if left+n<w then left+n else w)⟩,⟨⟨rf,rfl,rf,rfl,rf,le_int (by simp),tv⟩,⟨⟨rf,rf,rf,rf,rfl,tv⟩,⟨rfl,rfl⟩,⟨rf,rf,tv⟩,tv⟩,rfl,rfl⟩,⟨by show i+1≤l.length; omega,hl0,hl1⟩,by show l.length - (i+1)<l.length - i; omega⟩
  ·have hu:=w_use h0 h1 (by omega) hn
   by_cases hc:left<n
   ·simp only [if_pos hc] at hu
    refine .inr ⟨[3,2],[.ptr 0 0,ofD (eKy (3,4)),.dv (I 1),.dv (I 3),.dv (I n)],stK (itemsL 0 w) (wm left),0,_,_,hu,by kernel_rfl,by kernel_rfl,⟨rfl,⟨rf,rf,tv⟩,rf,rf,rf,tv⟩,⟨⟨rf,rf,rf,rf,rfl,tv⟩,⟨rfl,rfl⟩,tv⟩,?_⟩
    refine ⟨fun h=>?_,fun _=>?_⟩
    ·exfalso
     have e1:decide (n≤left)=false:=by simp; omega
     rw [e1] at h
     exact absurd h (by decide)
    refine ⟨fun h=>absurd h (by decide),fun _=>?_⟩
    have hl0:=h0
    have hl1:=h1
    refine .inr ⟨[3,2],[.ptr 0 0,ofD (eKy (3,4))],stK (itemsL 0 w) (wm left),0,_,_,w_get,by kernel_rfl,by kernel_rfl,⟨rfl,⟨rf,rf,tv⟩,tv⟩,⟨⟨rf,rf,rf,rf,rfl,tv⟩,⟨rfl,rfl⟩,tv⟩,?_⟩
    refine .inl ⟨_,fun _=>(part_wear (w:=w) (left:=left) hl0 hl1 (by omega) (by omega)).ok,?_⟩
    repeat first | refine ⟨id,?_⟩ | refine ⟨fun _ h=>bw_f h,?_⟩ | refine ⟨fun _ h=>bw_t h,?_⟩ | refine ⟨fun h=>⟨h,fun h2=>bw_and h h2⟩,?_⟩ | refine ⟨fun h=>⟨h,fun h2=>bw_andf h h2⟩,?_⟩
    refine ⟨fun h=>?_,fun _=>?_⟩
    ·exfalso
     have e1:((left:Int) != left)=false:=by simp
     have e2:decide ((left:Int)<0)=false:=by simp; omega
     have e3:decide (w<(left:Int))=false:=by simp; omega
     simp only [e1,e2,e3,Bool.not_true,cond_false] at h
     exact absurd h (by decide)
    ·exact ⟨fun _=>⟨by omega,by omega⟩,⟨i+1,left⟩,⟨⟨rf,rfl,rf,rfl,rf,le_int (by simp),tv⟩,⟨⟨rf,rf,rf,rf,rfl,tv⟩,⟨rfl,rfl⟩,⟨rf,rf,tv⟩,tv⟩,rfl,rfl⟩,⟨by show i+1≤l.length; omega,hl0,hl1⟩,by show l.length - (i+1)<l.length - i; omega⟩
   ·simp only [if_neg hc] at hu
    refine .inr ⟨[3,2],[.ptr 0 0,ofD (eKy (3,4)),.dv (I 1),.dv (I 3),.dv (I n)],stK (itemsL 0 w) (wm left),0,_,_,hu,by kernel_rfl,by kernel_rfl,⟨rfl,⟨rf,rf,tv⟩,rf,rf,rf,tv⟩,⟨⟨rf,rf,rf,rf,rfl,tv⟩,⟨rfl,rfl⟩,tv⟩,?_⟩
    refine ⟨fun h=>?_,fun _=>?_⟩
    ·exfalso
     have e1:decide (n≤left)=true:=by simp; omega
     rw [e1] at h
     exact absurd h (by decide)
    refine ⟨fun _=>⟨fun _=>⟨by omega,by omega⟩,?_⟩,fun h=>absurd h (by decide)⟩
    have hl0:0≤left - n:=by omega
    have hl1:left - n≤w:=by omega
    refine .inr ⟨[3,2],[.ptr 0 0,ofD (eKy (3,4))],stK (itemsL 0 w) (wm (left - n)),0,_,_,w_get,by kernel_rfl,by kernel_rfl,⟨rfl,⟨rf,rf,tv⟩,tv⟩,⟨⟨rf,rf,rf,rf,rfl,tv⟩,⟨rfl,rfl⟩,tv⟩,?_⟩
    refine .inl ⟨_,fun _=>(part_wear (w:=w) (left:=(left - n)) hl0 hl1 (by omega) (by omega)).ok,?_⟩
    repeat first | refine ⟨id,?_⟩ | refine ⟨fun _ h=>bw_f h,?_⟩ | refine ⟨fun _ h=>bw_t h,?_⟩ | refine ⟨fun h=>⟨h,fun h2=>bw_and h h2⟩,?_⟩ | refine ⟨fun h=>⟨h,fun h2=>bw_andf h h2⟩,?_⟩
    refine ⟨fun h=>?_,fun _=>?_⟩
    ·exfalso
     have e1:(((left - n):Int) != (left - n))=false:=by simp
     have e2:decide (((left - n):Int)<0)=false:=by simp; omega
     have e3:decide (w<((left - n):Int))=false:=by simp; omega
     simp only [e1,e2,e3,Bool.not_true,cond_false] at h
     exact absurd h (by decide)
    ·exact ⟨fun _=>⟨by omega,by omega⟩,⟨i+1,(left - n)⟩,⟨⟨rf,rfl,rf,rfl,rf,le_int (by simp),tv⟩,⟨⟨rf,rf,rf,rf,rfl,tv⟩,⟨rfl,rfl⟩,⟨rf,rf,tv⟩,tv⟩,rfl,rfl⟩,⟨by show i+1≤l.length; omega,hl0,hl1⟩,by show l.length - (i+1)<l.length - i; omega⟩
 ·exact .inl ⟨_,fun _=>lives_spec.ok,rf,tv⟩
end Go.Proofs.YtpjpdomkcabfcaaDoor
