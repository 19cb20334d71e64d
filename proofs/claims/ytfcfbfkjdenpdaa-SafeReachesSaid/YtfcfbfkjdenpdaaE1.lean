/- Contract of the law SafeReaches. -/
import Derived.Test.YtfcfbfkjdenpdaaR6
import Derived.Test.YtfcfbfkjdenpdaaD4
set_option linter.unusedVariables false
set_option linter.unusedSimpArgs false
set_option linter.unusedSectionVars false
namespace Go.Proofs.Ytfcfbfkjdenpdaa
open Go.TM

theorem spoilt_ne {d : Dea} (h : d.states ≠ []) (a b n : Int) : (spoilt d a b n).states ≠ [] := by
  unfold spoilt
  split
  · intro e
    exact h (List.eq_nil_of_length_eq_zero (by have := congrArg List.length e; simpa using this))
  · exact h
theorem deal_ne (l : List Int) : (dealD l).states ≠ [] := by
  have hn := pick_bd l 1 6 (by omega)
  have heq : Eqv (dl0 l).states (dealD l).states := gvAt_eqv l (dl0 l) _
  intro e
  have h1 := heq.len
  rw [e] at h1
  have h2 : (dl0 l).states.length = (dlN l).toNat := dlStas_len _ _ _ _
  rw [h2] at h1
  unfold dlN at h1
  simp at h1
  omega
theorem mk_ne (l : List Int) : (mkDeal l 5).states ≠ [] := by
  have hp := pick_bd l 1 4 (by omega)
  have hn := pick_bd l 2 5 (by omega)
  have hpl : ((mkPart l).length : Int) ≤ 4 := by
    simp only [mkPart, pnames, List.length_take, List.length_cons, List.length_nil]
    omega
  obtain ⟨-, -, h3, -⟩ := mkStas_ok l 5 (mkPart l).length (mkN l) hpl 3 (mkN l).toNat
  intro e
  have e : (mkStas l 5 (mkPart l).length (mkN l) 3 (mkN l).toNat).1 = [] := e
  rw [e] at h3
  unfold mkN at h3
  simp at h3
  omega
theorem dealsOf_ne (l : List Int) (a b n : Int) : ∀ d, d ∈ dealsOf l a b n → d.states ≠ [] := by
  intro d hd
  simp only [dealsOf, List.mem_cons, List.not_mem_nil, or_false] at hd
  rcases hd with rfl | rfl | rfl | rfl
  · exact deal_ne l
  · exact spoilt_ne (deal_ne l) _ _ _
  · exact spoilt_ne (deal_ne l) _ _ _
  · exact mk_ne l

set_option maxRecDepth 100000 in
set_option maxHeartbeats 4000000 in
theorem reaches_spec (l : List Int) (hl : ∀ x, x ∈ l → InI x) (a b n : Int) (ha : InI a) (hb : InI b) (hn : InI n) : PSpec Try.prog 5 [Ints l, I a, I b, I n] [B true] := by
  refine pspec_of tab_ok mixed (calls_snd _) (range_snd _) Try.func5 rfl (by kernel_rfl) rfl ?_
  refine .inl ⟨_, fun _ => (deals_spec l hl a b n ha hb hn).ok, ?_⟩
  have hsz := dealsOf_sz l a b n
  have hne := dealsOf_ne l a b n
  have hal : (dealsOf l a b n).length = 4 := rfl
  generalize dealsOf l a b n = all at *
  refine ⟨Nat, fun i => ⟨0, [(9, .dv (.sl 3 (all.map eDea))), (10, .dv (I i))], []⟩, fun i => i ≤ 4, fun i => 4 - i, 0, fun _ => rfl, ⟨⟨rf, rf, trivial⟩, trivial, rfl, rfl⟩, by omega, ?_⟩
  intro i hi
  refine ⟨fun h => ?_, fun h => ?_⟩
  · have hlt : i < all.length := by simpa using h
    clear h
    generalize hd' : all[i] = d at *
    have hdi : all[i]? = some d := by rw [List.getElem?_eq_getElem hlt, hd']
    have hmem := List.mem_of_getElem? hdi
    have hs := hsz d hmem
    have hdn := hne d hmem
    have hsm := hs.sm.states
    refine ⟨eDea d, fun _ => ⟨by omega, by simp [hdi]⟩, .inl ⟨_, fun _ => (lgiven_spec d hs).ok, ?_⟩⟩
    refine ⟨Nat, fun s => ⟨1, [(9, .dv (.sl 3 (all.map eDea))), (10, .dv (I i)), (11, .ptr 0 0), (12, .dv (I ((s : Int) - 1)))], [(0, .cells (dvs (dcells d)))]⟩, fun s => s ≤ d.states.length + 2, fun s => d.states.length + 2 - s, 0, fun _ => rfl, ⟨⟨rf, rf, rfl, rf, trivial⟩, ⟨subWs_dvs _ _ _ (dcells d), trivial⟩, rfl, rfl⟩, by omega, ?_⟩
    intro s hsl
    refine ⟨fun h => ?_, fun h => ?_⟩
    · have hle : (s : Int) - 1 ≤ d.states.length := by
        have h : (s : Int) - 1 ≤ ((d.states.map eSta).length : Int) := of_decide_eq_true h
        simpa using h
      clear h
      refine .inl ⟨_, fun _ => (sreach_spec d hdn hs.sm ((s : Int) - 1)).ok, ?_⟩
      cases hw : wayOf d ((s : Int) - 1) with
      | none =>
        have href := reach_spec d hs.sm ((s : Int) - 1)
        rw [hw] at href
        refine ⟨eDea d, fun _ => ⟨by omega, by simp [hdi]⟩, .inl ⟨_, fun _ => href.ok, ?_⟩⟩
        refine ⟨id, id, .inl ⟨_, fun _ => ⟨[Ints [], Ints []], ⟨DV.nils_le 1, DV.nils_le 1, trivial⟩, same_spec [] [] (by simp)⟩, id, ?_⟩⟩
        refine ⟨fun _ h => bw_f h, (fun h => absurd h (by decide)), fun _ => ⟨fun _ => ?_, (fun h => absurd h (by decide))⟩⟩
        exact ⟨fun _ => ⟨by omega, by omega⟩, s + 1, ⟨⟨rf, rf, rfl, le_int (by omega), trivial⟩, ⟨subWs_dvs _ _ _ (dcells d), trivial⟩, rfl, rfl⟩, by dsimp only; omega, by dsimp only; omega⟩
      | some w =>
        have href := reach_spec d hs.sm ((s : Int) - 1)
        rw [hw] at href
        refine ⟨eDea d, fun _ => ⟨by omega, by simp [hdi]⟩, .inl ⟨_, fun _ => href.ok, ?_⟩⟩
        have hwl := way_len hw
        have hww : (w == w) = true := by simp
        have hsm2 := same_spec w w (by omega)
        rw [hww] at hsm2
        obtain ⟨k, hk1, hk2⟩ := wayOf_inv hw
        have hpath := leads_disc d k _ w hk1 hk2
        have hrg := (disc_ok d).rng _ (List.mem_of_getElem? hk1)
        have hcl : ((s : Int) - 1).toNat < d.states.length := by omega
        obtain ⟨x, hx⟩ : ∃ x, d.states[((s : Int) - 1).toNat]? = some x := ⟨_, List.getElem?_eq_getElem hcl⟩
        have hol := hs.sm.opts x (List.mem_of_getElem? hx)
        have hst := steps_spec d ((s : Int) - 1).toNat x hx (by omega)
        rw [Int.toNat_of_nonneg hrg.1] at hst
        refine ⟨id, id, .inl ⟨_, fun _ => hsm2.ok, id, ?_⟩⟩
        refine ⟨fun _ h => bw_f h, (fun h => absurd h (by decide)), fun _ => ⟨(fun h => absurd h (by decide)), fun _ => ?_⟩⟩
        refine .inl ⟨_, fun _ => (follow_spec d w ((s : Int) - 1) hpath (by omega)).ok, ?_⟩
        refine ⟨fun h => ?_, fun _ => ?_⟩
        · exfalso
          have h : (((s : Int) - 1) != ((s : Int) - 1)) = true := h
          simp at h
        refine ⟨eDea d, fun _ => ⟨by omega, by simp [hdi]⟩, .inl ⟨_, fun _ => hst.ok, ?_⟩⟩
        have hsn := stepsOf_len d x
        refine ⟨Nat, fun k => ⟨1, [(9, .dv (.sl 3 (all.map eDea))), (10, .dv (I i)), (11, .ptr 0 0), (12, .dv (I ((s : Int) - 1))), (13, .dv (Ints w)), (17, .dv (.sl 4 ((stepsOf d x).map eStp))), (18, .dv (I k))], [(0, .cells (dvs (dcells d)))]⟩, fun k => k ≤ (stepsOf d x).length, fun k => (stepsOf d x).length - k, 0, fun _ => rfl, ⟨⟨rf, rf, rfl, rf, rf, rf, rf, trivial⟩, ⟨subWs_dvs _ _ _ (dcells d), trivial⟩, rfl, rfl⟩, by omega, ?_⟩
        intro k hk
        refine ⟨fun h => ?_, fun _ => ?_⟩
        · have hkl : k < (stepsOf d x).length := by simpa using h
          clear h
          generalize ht' : (stepsOf d x)[k] = t at *
          have hti : (stepsOf d x)[k]? = some t := by rw [List.getElem?_eq_getElem hkl, ht']
          obtain ⟨u, hu, hul⟩ := way_near hdn hw hx (List.mem_of_getElem? hti)
          have hul2 := way_len hu
          have hr := sreach_spec d hdn hs.sm t.next
          rw [hu] at hr
          refine ⟨eStp t, fun _ => ⟨by omega, by simp [hti]⟩, .inl ⟨_, fun _ => hr.ok, by kernel_rfl, ?_⟩⟩
          refine ⟨id, id, id, fun _ => ⟨by omega, by simp; omega⟩, id, id, fun _ h => bw_f h, fun h => ?_, fun _ => ?_⟩
          · exfalso
            have h : decide (((w.map I).length : Int) + 1 < ((u.map I).length : Int)) = true := h
            have h := of_decide_eq_true h
            simp at h
            omega
          · exact ⟨fun _ => ⟨by omega, by omega⟩, k + 1, ⟨⟨rf, rf, rfl, rf, rf, rf, le_int (by omega), trivial⟩, ⟨subWs_dvs _ _ _ (dcells d), trivial⟩, rfl, rfl⟩, by dsimp only; omega, by dsimp only; omega⟩
        · exact ⟨fun _ => ⟨by omega, by omega⟩, s + 1, ⟨⟨rf, rf, rfl, le_int (by omega), trivial⟩, ⟨subWs_dvs _ _ _ (dcells d), trivial⟩, rfl, rfl⟩, by dsimp only; omega, by dsimp only; omega⟩
    · refine ⟨fun _ => ⟨by omega, by omega⟩, i + 1, ⟨⟨rf, le_int (by omega), trivial⟩, trivial, rfl, rfl⟩, by dsimp only; omega, by dsimp only; omega⟩
  · exact .inl ⟨_, fun _ => lives_spec.ok, rf, trivial⟩
end Go.Proofs.Ytfcfbfkjdenpdaa
