import Derived.Test.YtpjpdomkcabfcaaGreatDoorCM15
set_option linter.unusedVariables false
set_option linter.unusedSimpArgs false
set_option linter.unusedSectionVars false
namespace Go.TM
open Go.RowKit
variable [Glob]
theorem mget_mem:∀{l:List DV} {k x:DV},mget l k=some x→∃k',DV.ent k' x∈l
 | [],_,_,h=>by simp [mget] at h
 | .ent k' v::r,k,x,h=>by
  simp only [mget] at h
  cases hk:keq k' k with
  | true=>rw [hk] at h; injection h with h; subst h; exact ⟨k',by simp⟩
  | false=>rw [hk] at h; obtain ⟨k'',h2⟩:=mget_mem h; exact ⟨k'',by simp [h2]⟩
 | .any::r,k,x,h=>by simp only [mget] at h; obtain ⟨k'',h2⟩:=mget_mem h; exact ⟨k'',by simp [h2]⟩
 | .anyb::r,k,x,h=>by simp only [mget] at h; obtain ⟨k'',h2⟩:=mget_mem h; exact ⟨k'',by simp [h2]⟩
 | .ivl _ _ _::r,k,x,h=>by simp only [mget] at h; obtain ⟨k'',h2⟩:=mget_mem h; exact ⟨k'',by simp [h2]⟩
 | .int _ _::r,k,x,h=>by simp only [mget] at h; obtain ⟨k'',h2⟩:=mget_mem h; exact ⟨k'',by simp [h2]⟩
 | .bool _::r,k,x,h=>by simp only [mget] at h; obtain ⟨k'',h2⟩:=mget_mem h; exact ⟨k'',by simp [h2]⟩
 | .str _::r,k,x,h=>by simp only [mget] at h; obtain ⟨k'',h2⟩:=mget_mem h; exact ⟨k'',by simp [h2]⟩
 | .nilp::r,k,x,h=>by simp only [mget] at h; obtain ⟨k'',h2⟩:=mget_mem h; exact ⟨k'',by simp [h2]⟩
 | .nilf::r,k,x,h=>by simp only [mget] at h; obtain ⟨k'',h2⟩:=mget_mem h; exact ⟨k'',by simp [h2]⟩
 | .nilm::r,k,x,h=>by simp only [mget] at h; obtain ⟨k'',h2⟩:=mget_mem h; exact ⟨k'',by simp [h2]⟩
 | .nili::r,k,x,h=>by simp only [mget] at h; obtain ⟨k'',h2⟩:=mget_mem h; exact ⟨k'',by simp [h2]⟩
 | .nils::r,k,x,h=>by simp only [mget] at h; obtain ⟨k'',h2⟩:=mget_mem h; exact ⟨k'',by simp [h2]⟩
 | .fn _ _::r,k,x,h=>by simp only [mget] at h; obtain ⟨k'',h2⟩:=mget_mem h; exact ⟨k'',by simp [h2]⟩
 | .sl _ _::r,k,x,h=>by simp only [mget] at h; obtain ⟨k'',h2⟩:=mget_mem h; exact ⟨k'',by simp [h2]⟩
 | .at _ _::r,k,x,h=>by simp only [mget] at h; obtain ⟨k'',h2⟩:=mget_mem h; exact ⟨k'',by simp [h2]⟩
 | .agg _::r,k,x,h=>by simp only [mget] at h; obtain ⟨k'',h2⟩:=mget_mem h; exact ⟨k'',by simp [h2]⟩
 | .osl _ _::r,k,x,h=>by simp only [mget] at h; obtain ⟨k'',h2⟩:=mget_mem h; exact ⟨k'',by simp [h2]⟩
 | .optr _::r,k,x,h=>by simp only [mget] at h; obtain ⟨k'',h2⟩:=mget_mem h; exact ⟨k'',by simp [h2]⟩
 | .omap _ _::r,k,x,h=>by simp only [mget] at h; obtain ⟨k'',h2⟩:=mget_mem h; exact ⟨k'',by simp [h2]⟩
theorem omap_only {ks:KS} {l:List DV} (hcl:∀k x,DV.ent k x∈l→x.closedCells) {p:List PS} {n:DV} (h:get (.omap ks l) p=some n) (ho:n.owning=true):p=[]∧n=.omap ks l:=by
 cases p with
 | nil=>simp [get] at h; exact ⟨rfl,h.symm⟩
 | cons s p =>
  exfalso
  simp only [get] at h
  cases s with
  | el i j=>simp [step] at h
  | key k j =>
   simp only [step] at h
   cases hm:mget l k with
   | none=>rw [hm] at h; simp at h
   | some x =>
    rw [hm] at h
    simp only at h
    cases hc:x.cells[j]? with
    | none=>rw [hc] at h; simp at h
    | some c =>
     rw [hc] at h
     simp only at h
     obtain ⟨k',hmem⟩:=mget_mem hm
     have hco:c.owning=false:=hcl k' x hmem c (List.mem_of_getElem? hc)
     cases p with
     | nil=>simp [get] at h; subst h; rw [hco] at ho; cases ho
     | cons s' p =>
      simp only [get] at h
      cases c <;> simp [step] at h <;> cases hco
theorem cspec_clone {P:Program} {f:Nat} (hcal:Callable P f)
  (hc:∀(b:Nat) (es:Array MapEntry) (clock:Nat) (w:World),w.heap[b]?=some (.map es clock)→Calls P f #[.map (some b)] w fun e w'=>e=.returned (.map (some w.heap.size))∧w'=w.alloc (.map es clock))
  {ks:KS} {l:List DV} (hcl:∀k x,DV.ent k x∈l→x.closedCells) :
  CSpec P f [.own 0 0 0 []] 1 [(0,.tree 0 0 (.omap ks l))] 1 [.own 1 0 0 []] [(0,.tree 0 0 (.omap ks l)),(1,.tree 0 0 (.omap ks l))]:=by
 refine ⟨hcal,fun w G vs hgl hfit hr=>?_⟩
 obtain ⟨v0,rfl⟩:∃v0,vs=[v0]:=by
  match vs,hr.1 with
  | [a],_=>exact ⟨a,rfl⟩
 have h0:=hr.2 0 _ v0 rfl rfl
 have hb:=hfit.box 0
 have hl0:lookB [(0,Box.tree 0 0 (.omap ks l))] 0=.tree 0 0 (.omap ks l):=rfl
 rw [hl0] at hb
 obtain ⟨ht,hi,hf1,hf2⟩:=hb
 obtain ⟨u,hu,_,g0,es,clock,rfl,hw,hsz,hst,hnd,hent⟩:=ht.2 [] _ rfl rfl
 cases h0 with | own _ _ _ _ _ hh _ =>
 rw [show hdr G.H 0 0 0 []=G.H 0 0 0 [] from rfl] at hu hh
 rw [hu] at hh; injection hh with hh; subst hh
 have hno:∀i,1≤i→lookB [(0,Box.tree 0 0 (.omap ks l))] i=.none:=fun i hi=>by
  rw [show lookB [(0,Box.tree 0 0 (.omap ks l))] i=(bif Nat.beq 0 i then Box.tree 0 0 (.omap ks l) else .none) from rfl,beq_false (by omega)]; rfl
 let g:Org:=⟨fun b=>∃i,Own G i (lookB [(0,Box.tree 0 0 (.omap ks l))] i) b,w,G.M,1,G.β,fun i p=>G.H i 0 0 p⟩
 have hst0:StM g 0 (fun _=>.any) (lookB [(0,Box.tree 0 0 (.omap ks l))]) { tmps:=#[],defers:=[] } w G :=
  {fit:=hfit,env:=fun t=>.any _,size:=rfl,bel:=fun _ _ _=>rfl,os:=rfl,tape:=rfl,output:=rfl,grow:=Nat.le_refl _,mem:=.refl G.M,mlow:=fun _ _ _=>rfl,ownhi:=fun i b ho=>.inr ⟨i,ho⟩,bet:=fun _ _=>rfl,hed:=fun _ _ _ _ hx=>hx,glob:=hgl,dfr:=⟨[],rfl,List.nodup_nil,by simp⟩ }
 refine Calls.mono (hc g0 es clock w hw) ?_
 rintro e w' ⟨rfl,rfl⟩
 have hlk:lookB [(0,Box.tree 0 0 (.omap ks l)),(1,Box.tree 0 0 (.omap ks l))]=upd (lookB [(0,Box.tree 0 0 (.omap ks l))]) 1 (.tree 0 0 (.omap ks l)):=by
  funext i
  match i with
  | 0=>rfl
  | 1=>rfl
  | i+2=>rfl
 obtain ⟨G',g1,g2,g3,g4⟩:=hst0.newTree (κ':=upd (lookB [(0,Box.tree 0 0 (.omap ks l))]) 1 (.tree 0 0 (.omap ks l))) (w':=w.alloc (.map es clock)) (i:=1) (d:=.omap ks l) (fun _=>False) (fun p=>if p=[] then some (.map (some w.heap.size)) else none) (fun h=>h)
  (hno 1 (Nat.le_refl _)) (fun _ h=>h.elim) (upd_same _ _ _) (fun j hj _=>upd_other _ _ hj)
  ⟨rfl,fun p m hp ho=>by
   obtain ⟨rfl,rfl⟩:=omap_only hcl hp ho
   refine ⟨_,by simp,rfl,w.heap.size,es,clock,rfl,heap_alloc_at w _,hsz,hst,hnd,fun j e he=>?_⟩
   obtain ⟨k,x,e1,e2,e3,e4,e5,e6⟩:=hent j e he
   refine ⟨k,x,e1,e2,e3,e4,e5,fun q d hd=>?_⟩
   obtain ⟨c1,u,c2,c3⟩:=e6 q d hd
   have hdo:d.owning=false:=hcl k x (List.mem_of_getElem? e1) d (List.mem_of_getElem? hd)
   rcases c3 with ⟨c3,_⟩ | ⟨_,c3⟩
   ·rw [hdo] at c3; cases c3
   ·exact ⟨c1,u,c2,.inr ⟨hdo,c3⟩⟩⟩
  (fun p q m m' u v b e1 e2 _ _ f1 f2 _ _=>by rw [(omap_only hcl e1 e2).1,(omap_only hcl f1 f2).1])
  (fun b ⟨p,m,v,h1,h2,h3,h4⟩=>by
   obtain ⟨rfl,rfl⟩:=omap_only hcl h1 h2
   simp at h3; subst h3; simp [blk] at h4; exact .inl (by omega))
  (fun b hb _=>heap_alloc_lt w _ hb) (by simp) rfl rfl rfl
 refine ⟨_,_,_,G',rfl,⟨rfl,rfl⟩,?_⟩
 rw [hlk]
 refine ⟨g4.fit,fun i hi=>?_,?_,g4.mem,g4.bet,g4.hed,fun b hb hO=>⟨g4.bel b hb (fun ⟨i,h⟩=>hO i h),g4.mlow b hb (fun ⟨i,h⟩=>hO i h)⟩,g4.ownhi,g4.os,g4.tape,g4.output,g4.grow⟩
 ·rw [upd_other _ _ (by omega)]; exact hno i (by omega)
 ·exact .own _ _ _ _ _ ((g3 []).trans (by simp)) rfl
end Go.TM
