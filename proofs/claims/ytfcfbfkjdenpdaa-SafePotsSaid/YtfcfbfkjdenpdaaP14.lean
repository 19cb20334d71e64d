/- Contract of the law SafePots. -/
import Derived.Test.YtfcfbfkjdenpdaaP12
import Derived.Test.YtfcfbfkjdenpdaaP13
import Derived.Test.YtfcfbfkjdenpdaaR6
set_option linter.unusedVariables false
set_option linter.unusedSimpArgs false
set_option linter.unusedSectionVars false
namespace Go.Proofs.Ytfcfbfkjdenpdaa
open Go.TM

set_option maxRecDepth 100000 in
set_option maxHeartbeats 4000000 in
theorem pots_spec (l : List Int) (hl : ∀ x, x ∈ l → InI x) (a b n : Int) (ha : InI a) (hb : InI b) (hn : InI n) : PSpec Try.prog 3 [Ints l, I a, I b, I n] [B true] := by
  refine pspec_of tab_ok mixed (calls_snd _) (range_snd _) Try.func3 rfl (by kernel_rfl) rfl ?_
  refine .inl ⟨_, fun _ => (deals_spec l hl a b n ha hb hn).ok, ?_⟩
  have hpt := dealsOf_parts l a b n
  have hsz := dealsOf_sz l a b n
  have hal : (dealsOf l a b n).length = 4 := rfl
  generalize dealsOf l a b n = all at *
  have har := around_bd n 70 (by omega)
  refine .inl ⟨_, fun _ => (around_spec n 70 hn (by omega)).ok, fun _ => ⟨by omega, by omega⟩, ?_⟩
  generalize around n 70 - 2 = N at *
  refine .inl ⟨[I 5, I 3, I 2, I N], rfl, ⟨rf, rf, rf, rf, trivial⟩, fun y hy => (by simp at hy; rcases hy with rfl | rfl | rfl | rfl <;> rfl), ?_⟩
  refine ⟨Nat, fun i => ⟨0, [(9, .dv (.sl 3 (all.map eDea))), (10, .dv (Ints [5, 3, 2, N])), (11, .dv (I i))], []⟩, fun i => i ≤ 4, fun i => 4 - i, 0, fun _ => rfl, ⟨⟨rf, rf, rf, trivial⟩, trivial, rfl, rfl⟩, by omega, ?_⟩
  intro i hi
  refine ⟨fun h => ?_, fun h => ?_⟩
  · have hlt : i < all.length := by simpa using h
    clear h
    generalize hd' : all[i] = d at *
    have hdi : all[i]? = some d := by rw [List.getElem?_eq_getElem hlt, hd']
    have hmem := List.mem_of_getElem? hdi
    have hs := hsz d hmem
    have hp := hpt d hmem
    refine ⟨Nat, fun k => ⟨0, [(9, .dv (.sl 3 (all.map eDea))), (10, .dv (Ints [5, 3, 2, N])), (11, .dv (I i)), (12, .dv (I k))], []⟩, fun k => k ≤ 4, fun k => 4 - k, 0, fun _ => rfl, ⟨⟨rf, rf, rf, rf, trivial⟩, trivial, rfl, rfl⟩, by omega, ?_⟩
    intro k hk
    refine ⟨fun h => ?_, fun h => ?_⟩
    · have hkl : k < 4 := by
        have : (k : Int) < 4 := of_decide_eq_true h
        omega
      clear h
      obtain ⟨m, hm⟩ : ∃ m, ([5, 3, 2, N] : List Int)[k]? = some m := ⟨_, List.getElem?_eq_getElem (by simp; omega)⟩
      have hmi : true = true → 0 ≤ (k : Int) ∧ (([5, 3, 2, N] : List Int).map I)[((k : Int)).toNat]? = some (I m) := fun _ => ⟨by omega, by rw [Int.toNat_natCast, List.getElem?_map, hm]; rfl⟩
      have hdd : true = true → 0 ≤ (i : Int) ∧ (all.map eDea)[((i : Int)).toNat]? = some (eDea d) := fun _ => ⟨by omega, by simp [hdi]⟩
      obtain ⟨hb1, hb2⟩ := pots_bd m d hp
      have hwy := potsF_way m d hp
      have hsp := sPots_spec m d hp
      have hrp := Pots_spec m d hp
      generalize potsF m d = pf at *
      obtain ⟨p, f⟩ := pf
      dsimp only at hb1 hb2 hwy hsp hrp
      refine ⟨I m, hmi, eDea d, hdd, .inl ⟨_, fun _ => (lgiven_spec d hs).ok, .inl ⟨_, fun _ => hsp.ok, by kernel_rfl, ?_⟩⟩⟩
      refine ⟨I m, hmi, eDea d, hdd, .inl ⟨_, fun _ => hrp.ok, by kernel_rfl, ?_⟩⟩
      refine .inl ⟨_, fun _ => (same2_spec f hwy).ok, ?_⟩
      refine ⟨id, id, ?_⟩
      refine .inl ⟨_, fun _ => (lists_spec p hb1 hb2).ok, id, ?_⟩
      refine ⟨fun _ h => bw_f h, (fun h => by cases h), fun _ => ?_⟩
      exact ⟨fun _ => ⟨by omega, by omega⟩, k + 1, ⟨⟨rf, rf, rf, le_int (by omega), trivial⟩, trivial, rfl, rfl⟩, by dsimp only; omega, by dsimp only; omega⟩
    · exact ⟨fun _ => ⟨by omega, by omega⟩, i + 1, ⟨⟨rf, rf, le_int (by omega), trivial⟩, trivial, rfl, rfl⟩, by dsimp only; omega, by dsimp only; omega⟩
  · exact .inl ⟨_, fun _ => lives_spec.ok, rf, trivial⟩
end Go.Proofs.Ytfcfbfkjdenpdaa
