/- Laws: where each state was discovered from, and its contributions. No program. -/
import Derived.Test.YtfcfbfkjdenpdaaP3
set_option linter.unusedVariables false
set_option linter.unusedSimpArgs false
set_option linter.unusedSectionVars false
namespace Go.Proofs.Ytfcfbfkjdenpdaa
open Go.TM

/-- How the j-th state was discovered. -/
def Found (d : Dea) (b : PB) (j : Nat) (s : Int) : Prop :=
  (j = 0 ∧ s = 0 ∧ lookI b.from_ s = some (-1)) ∨
  (0 < j ∧ ∃ (k : Nat) (p : Int) (st : Stp) (x : Sta), k < j ∧ (keysF b)[k]? = some p ∧ 0 ≤ p ∧ lookI b.from_ s = some p ∧ lookI b.steps s = some st ∧ d.states[p.toNat]? = some x ∧ st ∈ stepsOf d x ∧ st.next = s)
structure FOk (d : Dea) (b : PB) : Prop where
  st : b.steps.map (·.1) = (keysF b).tail
  ne : keysF b ≠ []
  nd : (keysF b).Nodup
  fo : ∀ (j : Nat) (s : Int), (keysF b)[j]? = some s → Found d b j s
theorem Found.add {d : Dea} {b : PB} {j : Nat} {s : Int} (h : Found d b j s) {cur : Int} {t : Stp} (hn : t.next ∉ keysF b) : Found d ⟨b.from_ ++ [(t.next, cur)], b.steps ++ [(t.next, t)]⟩ j s := by
  rcases h with ⟨h1, h2, h3⟩ | ⟨h0, k, p, st, x, h1, h2, h3, h4, h5, h6⟩
  · exact .inl ⟨h1, h2, lookI_mono h3 _ _⟩
  · refine .inr ⟨h0, k, p, st, x, h1, ?_, h3, lookI_mono h4 _ _, lookI_mono h5 _ _, h6⟩
    have hk : k < (keysF b).length := (List.getElem?_eq_some_iff.1 h2).1
    simp only [keysF, List.map_append] at h2 hk ⊢
    rw [List.getElem?_append_left hk]; exact h2
theorem FOk.add {d : Dea} {b : PB} (h : FOk d b) {i : Nat} {cur : Int} (hc : (keysF b)[i]? = some cur) (h0 : 0 ≤ cur) {x : Sta} (hx : d.states[cur.toNat]? = some x) {t : Stp} (ht : t ∈ stepsOf d x) : FOk d (addP cur b t) ∧ (keysF (addP cur b t))[i]? = some cur := by
  have hp := PQok.add (z := ⟨b, [], false⟩) ⟨h.st, h.ne⟩ cur t
  by_cases hn : t.next ∈ keysF b
  · have e1 : addP cur b t = b := by unfold addP; rw [if_pos hn]
    rw [e1]; exact ⟨h, hc⟩
  · have e1 : addP cur b t = ⟨b.from_ ++ [(t.next, cur)], b.steps ++ [(t.next, t)]⟩ := by unfold addP; rw [if_neg hn]
    have hil : i < (keysF b).length := (List.getElem?_eq_some_iff.1 hc).1
    have hk : keysF (addP cur b t) = keysF b ++ [t.next] := by rw [e1]; simp [keysF]
    have hns : t.next ∉ b.steps.map (·.1) := by rw [h.st]; exact fun h => hn (List.mem_of_mem_tail h)
    refine ⟨⟨hp.st, hp.ne, ?_, fun j s hj => ?_⟩, by rw [hk, List.getElem?_append_left hil]; exact hc⟩
    · rw [hk, List.nodup_append]
      exact ⟨h.nd, by simp, fun a ha b hb => by simp at hb; subst hb; exact fun e => hn (e ▸ ha)⟩
    · rw [hk] at hj
      by_cases hjl : j < (keysF b).length
      · rw [List.getElem?_append_left hjl] at hj
        have := (h.fo j s hj).add (cur := cur) hn
        rw [e1]; exact this
      · have hz : j - (keysF b).length = 0 := by
          by_cases hz : j - (keysF b).length = 0
          · exact hz
          · rw [List.getElem?_append_right (by omega), List.getElem?_eq_none (by simp; omega)] at hj
            cases hj
        rw [List.getElem?_append_right (by omega), hz] at hj
        simp at hj
        subst hj
        refine .inr ⟨by omega, i, cur, t, x, by omega, ?_, h0, ?_, ?_, hx, ht, rfl⟩
        · rw [hk, List.getElem?_append_left hil]; exact hc
        · rw [e1]
          show lookI (b.from_ ++ [(t.next, cur)]) t.next = _
          rw [lookI_app, lookI_none hn]; simp
        · rw [e1]
          show lookI (b.steps ++ [(t.next, t)]) t.next = _
          rw [lookI_app, lookI_none hns]; simp
theorem FOk.fold {d : Dea} {i : Nat} {cur : Int} (h0 : 0 ≤ cur) {x : Sta} (hx : d.states[cur.toNat]? = some x) : ∀ (l : List Stp) {b : PB}, FOk d b → (keysF b)[i]? = some cur → (∀ t, t ∈ l → t ∈ stepsOf d x) → FOk d (l.foldl (addP cur) b)
  | [], _, h, _, _ => h
  | t :: l, b, h, hc, hl => by
    obtain ⟨h1, h2⟩ := h.add hc h0 hx (hl t (by simp))
    exact FOk.fold h0 hx l h1 h2 fun u hu => hl u (by simp [hu])
theorem fok_at (d : Dea) (hd : d.states ≠ []) : ∀ i, FOk d (bfsP d i)
  | 0 => ⟨rfl, by simp [keysF, bfsP], by simp [keysF, bfsP], fun j s hj => by
      match j with
      | 0 => simp [keysF, bfsP] at hj; subst hj; exact .inl ⟨rfl, rfl, rfl⟩
      | j + 1 => simp [keysF, bfsP] at hj⟩
  | i + 1 => by
    have ih := fok_at d hd i
    have hb := bfsAt_ok d hd i
    have hk := bfsP_keys d hd i
    show FOk d (procP d i (bfsP d i))
    unfold procP
    cases ho : (keysF (bfsP d i))[i]? with
    | none => exact ih
    | some s =>
      simp only
      cases hx : d.states[s.toNat]? with
      | none => exact ih
      | some x =>
        have hr := hb.rng s (by rw [← hk]; exact List.mem_of_getElem? ho)
        exact FOk.fold hr.1 hx _ ih ho fun t ht => ht
theorem fok (d : Dea) (hd : d.states ≠ []) : FOk d (pD d) := fok_at d hd _

/-- What a step of a state does to the contributions. -/
theorem fol_step (n : Nat) {d : Dea} {v : List Int} {s : Int} (hp : Path d 0 v s) {x : Sta} (hx : d.states[s.toNat]? = some x) {t : Stp} (ht : t ∈ stepsOf d x) : folM n d (v ++ [t.label]) = putAll (folM n d v) t.party t.put := by
  have hs : (folW n d v).s = s := folW_s n hp
  have hopt : ∀ k (t : Stp), t ∈ optSteps d x k → ∃ o, 0 ≤ t.label ∧ x.opts[t.label.toNat]? = some o ∧ o.party = t.party ∧ o.put = t.put := by
    intro k
    induction k with
    | zero => intro t h; simp [optSteps] at h
    | succ k ih =>
      intro t h
      simp only [optSteps] at h
      split at h
      · rename_i o ho
        split at h
        · rcases List.mem_append.1 h with h | h
          · exact ih t h
          · rcases List.mem_singleton.1 h with rfl
            exact ⟨o, by simp, by simpa using ho, rfl, rfl⟩
        · exact ih t h
      · exact ih t h
  have key : (∃ o, 0 ≤ t.label ∧ x.opts[t.label.toNat]? = some o ∧ o.party = t.party ∧ o.put = t.put) ∨ (t.label = -1 ∧ t.put = []) := by
    unfold stepsOf at ht
    rcases List.mem_append.1 ht with h | h
    · split at h
      · simp at h
      · exact .inl (hopt _ t h)
    · split at h
      · rcases List.mem_singleton.1 h with rfl; exact .inr ⟨rfl, rfl⟩
      · simp at h
  unfold folM folW
  rw [List.foldl_append]
  show (fstep d (folW n d v) t.label).m = _
  unfold fstep
  rw [hs]
  simp only [hx]
  rcases key with ⟨o, h1, h2, h3, h4⟩ | ⟨h1, h2⟩
  · rw [if_neg (by omega), h2]
    simp only [h3, h4]; rfl
  · rw [if_pos h1, h2]; rfl

/-- The contributions by the states' order: the first state's rows are owned. -/
def cRow (s : Int) (m : Rows) : DV := .ent (I s) (eRows m)
def conAt (n : Nat) (d : Dea) : Nat → List (Int × Rows)
  | 0 => []
  | k + 1 => match (disc d).order[k]?, (disc d).ways[k]? with
    | some s, some v => conAt n d k ++ [(s, folM n d v)]
    | _, _ => conAt n d k
theorem conAt_zip (n : Nat) (d : Dea) (hl : (disc d).ways.length = (disc d).order.length) : ∀ k, conAt n d k = (((disc d).order.zip (disc d).ways).take k).map fun z => (z.1, folM n d z.2)
  | 0 => rfl
  | k + 1 => by
    have ih := conAt_zip n d hl k
    simp only [conAt]
    rw [List.take_add_one, List.map_append, ← ih]
    by_cases hk : k < (disc d).order.length
    · have h1 : (disc d).order[k]? = some (disc d).order[k] := List.getElem?_eq_getElem hk
      have h2 : (disc d).ways[k]? = some ((disc d).ways[k]'(by omega)) := List.getElem?_eq_getElem (by omega)
      rw [h1, h2, zip_at h1 h2]; rfl
    · have hz : ((disc d).order.zip (disc d).ways)[k]? = none := List.getElem?_eq_none (by simp; omega)
      rw [List.getElem?_eq_none (by omega), hz]; simp
theorem conAt_keys (n : Nat) (d : Dea) (hl : (disc d).ways.length = (disc d).order.length) (k : Nat) : (conAt n d k).map (·.1) = (disc d).order.take k := by
  rw [conAt_zip n d hl, List.map_map, List.map_take]
  congr 1
  rw [show ((fun x : Int × Rows => x.1) ∘ fun z : Int × List Int => (z.1, folM n d z.2)) = Prod.fst from rfl, List.map_fst_zip (by omega)]
theorem lookI_of_nodup {α : Type} : ∀ {m : List (Int × α)} {s : Int} {v : α}, (m.map (·.1)).Nodup → (s, v) ∈ m → lookI m s = some v
  | [], s, v, _, h => by simp at h
  | x :: m, s, v, hn, h => by
    unfold lookI
    rw [List.find?_cons]
    rw [List.map_cons, List.nodup_cons] at hn
    rcases List.mem_cons.1 h with rfl | h
    · simp
    · have hne : (x.1 == s) = false := by
        rw [beq_eq_false_iff_ne]
        intro e
        exact hn.1 (e ▸ List.mem_map.2 ⟨(s, v), h, rfl⟩)
      rw [hne]
      exact lookI_of_nodup hn.2 h
/-- What the contributions hold of a state. -/
theorem conAt_look (n : Nat) {d : Dea} (hb : BOk d (disc d)) {i k : Nat} {s : Int} {v : List Int} (hki : k < i) (hs : (disc d).order[k]? = some s) (hv : (disc d).ways[k]? = some v) : lookI (conAt n d i) s = some (folM n d v) := by
  refine lookI_of_nodup ?_ ?_
  · rw [conAt_keys n d hb.len]
    exact List.Nodup.sublist (List.take_sublist _ _) hb.nod
  · rw [conAt_zip n d hb.len]
    refine List.mem_map.2 ⟨(s, v), ?_, rfl⟩
    have := zip_at hs hv
    have h2 : (((disc d).order.zip (disc d).ways).take i)[k]? = some (s, v) := by rw [List.getElem?_take_of_lt hki]; exact this
    exact List.mem_of_getElem? h2
end Go.Proofs.Ytfcfbfkjdenpdaa
