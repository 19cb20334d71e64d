/- Contracts: Clone, Equal, after. -/
import Derived.Test.YtfcfbfkjdenpdaaP3
set_option linter.unusedVariables false
set_option linter.unusedSimpArgs false
set_option linter.unusedSectionVars false
namespace Go.Proofs.Ytfcfbfkjdenpdaa
open Go.TM

theorem clone_spec (l : List Int) (hl : l.length ≤ 1000) : CSpec Try.prog 81 [.dv (Ints l)] 0 [] 1 [.own 0 0 0 []] [(0, .tree 0 0 (.osl 1 (l.map I)))] := by
  refine cspec_of tab_ok mixed (calls_snd _) (range_snd _) Try.func81 rfl rfl (by kernel_rfl) ?_
  cases l with
  | nil =>
    refine .inl ⟨?_, ?_⟩
    · exact ⟨_, _, ⟨rfl, rfl⟩, rfl, ⟨⟨rfl, rfl, rfl, rfl, 1, rfl⟩, trivial⟩, ⟨rfl, rfl, 1, rfl⟩, trivial⟩
    · refine .inr (.inl ⟨[], rfl, trivial, (fun x hx => by cases hx), .inr ⟨[], trivial, by simp, by simp, ?_⟩⟩)
      exact ⟨_, _, ⟨rfl, rfl⟩, rfl, ⟨rfl, trivial⟩, ⟨rfl, rfl⟩, trivial⟩
  | cons x l =>
    refine .inr ⟨by simp, (fun h => by cases h), fun _ => ?_⟩
    refine .inr (.inl ⟨[], rfl, trivial, (fun x hx => by cases hx), .inr ⟨(x :: l).map I, ELes.refl _, by rw [by22]; simp at hl ⊢; omega, by simp at hl ⊢; omega, ?_⟩⟩)
    exact ⟨_, _, ⟨rfl, rfl⟩, rfl, ⟨rfl, trivial⟩, ⟨rfl, rfl⟩, trivial⟩

theorem equal_spec (a b : List Int) (hl : a.length ≤ 1000000000000) : PSpec Try.prog 60 [Ints a, Ints b] [B (a == b)] := by
  refine pspec_of tab_ok mixed (calls_snd _) (range_snd _) Try.func60 rfl (by kernel_rfl) rfl ?_
  refine ⟨fun h => ?_, fun h => ?_⟩
  · refine ⟨DV.Le.of_eq ?_, trivial⟩
    have hne : a.length ≠ b.length := by
      intro e
      simp [e] at h
    have : (a == b) = false := by
      rw [beq_eq_false_iff_ne]
      intro e; exact hne (by rw [e])
    rw [this]
  · have he : a.length = b.length := by
      simp at h; omega
    refine ⟨Nat, fun k => ⟨0, [(0, .dv (Ints a)), (1, .dv (Ints b)), (12, .dv (I a.length)), (13, .dv (I k))], []⟩, fun k => k ≤ a.length ∧ ∀ i < k, a[i]? = b[i]?, fun k => a.length - k, 0, fun _ => rfl, ⟨⟨rf, rf, le_int (by simp), rf, trivial⟩, trivial, rfl, rfl⟩, ⟨by omega, by omega⟩, ?_⟩
    rintro k ⟨hk1, hk2⟩
    refine ⟨fun h => ?_, fun h => ?_⟩
    · have hk : k < a.length := by
        have : (k : Int) < a.length := of_decide_eq_true h
        omega
      refine ⟨I a[k], fun _ => ⟨by omega, by simp⟩, I (b[k]'(by omega)), fun _ => ⟨by omega, by simp⟩, by kernel_rfl, ?_⟩
      refine ⟨fun h => ?_, fun h => ?_⟩
      · have hn : a[k] ≠ b[k]'(by omega) := by simpa using h
        refine ⟨DV.Le.of_eq ?_, trivial⟩
        have : (a == b) = false := by
          rw [beq_eq_false_iff_ne]
          intro e; subst e; exact hn rfl
        rw [this]
      · have hn : a[k] = b[k]'(by omega) := by simpa using h
        refine ⟨fun _ => ⟨by omega, by omega⟩, k + 1, ⟨⟨rf, rf, rf, le_int (by omega), trivial⟩, trivial, rfl, rfl⟩, ⟨by omega, fun i hi => ?_⟩, ?_⟩
        · by_cases e : i = k
          · subst e; rw [List.getElem?_eq_getElem hk, List.getElem?_eq_getElem (by omega), hn]
          · exact hk2 i (by omega)
        · show a.length - (k + 1) < a.length - k
          omega
    · have hk : k = a.length := by
        have : ¬ (k : Int) < a.length := of_decide_eq_false h
        omega
      refine ⟨DV.Le.of_eq ?_, trivial⟩
      have : a = b := by
        apply List.ext_getElem?
        intro i
        by_cases hi : i < a.length
        · exact hk2 i (by omega)
        · rw [List.getElem?_eq_none (by omega), List.getElem?_eq_none (by omega)]
      rw [beq_iff_eq.2 this]

/-- The first rows of a table, the others still empty. -/
def halfR (m : Rows) (k : Nat) : Rows := m.take k ++ List.replicate (m.length - k) []
def oRow0 (r : List Int) : DV := .osl 1 (r.map I)
structure AfI where
  k : Nat
  m : Rows
set_option maxHeartbeats 4000000 in
theorem after_spec (n : Nat) (hn : n ≤ 1000) (m : Rows) (p : Nat) (hp : p ≤ 4) (hr : Rect p n 1099511627776000000 m) (s : Stp) (hsp : s.put ≠ [] → 0 ≤ s.party ∧ s.party < p) (hsl : s.put.length ≤ 1000) (hsa : ∀ a, a ∈ s.put → 0 ≤ a.1 ∧ a.1 < n ∧ 0 ≤ a.2 ∧ a.2 ≤ 1099511627776) : PSpec Try.prog 58 [eRows m, eSs s] [eRows (putAll m s.party s.put)] := by
  refine pspec_of tab_ok mixed (calls_snd _) (range_snd _) Try.func58 rfl (by kernel_rfl) rfl ?_
  have hml := hr.len
  refine ⟨.nils, ⟨rf, trivial⟩, by simp, by simp, by rw [by26]; simp; omega, by simp; omega, false, (fun h => by cases h), ?_⟩
  refine ⟨Nat, fun k => ⟨2, [(3, .ptr 0 0), (5, .own 1 0 0 []), (13, .dv (eRows m)), (14, .dv (I m.length)), (15, .dv (I k))], [(0, .cells (dvs (eSs s).cells)), (1, .tree 0 0 (.osl 1 ((m.take k).map oRow ++ List.replicate (m.length - k) .nils)))]⟩, fun k => k ≤ m.length, fun k => m.length - k, 0, fun _ => rfl, ?_, by omega, ?_⟩
  · refine ⟨⟨rfl, rfl, rf, le_int (by simp), rf, trivial⟩, ⟨⟨rf, rf, rf, rf, trivial⟩, ⟨rfl, ?_⟩, trivial⟩, rfl, rfl⟩
    show DV.osl 1 (List.replicate ((m.map Ints).length : Int).toNat .nils) = _
    simp
  intro k hk1
  refine ⟨fun h => ?_, fun h => ?_⟩
  · have hk : k < m.length := by
      have : (k : Int) < m.length := of_decide_eq_true h
      omega
    clear h
    generalize hr' : m[k] = r at *
    have hro : m[k]? = some r := by rw [List.getElem?_eq_getElem hk, hr']
    have hrl := hr.row r (List.mem_of_getElem? hro)
    refine ⟨Ints r, fun _ => ⟨by omega, by simp [hro]⟩, ?_⟩
    refine .inr ⟨[], [.dv (Ints r)], [], 1, _, _, clone_spec r (by omega), rfl, rfl, ⟨rf, trivial⟩, trivial, ?_⟩
    have hrk : List.replicate (m.length - k) DV.nils = DV.nils :: List.replicate (m.length - (k + 1)) DV.nils := by
      rw [show m.length - k = (m.length - (k + 1)) + 1 by omega, List.replicate_succ]
    have htl : ((m.take k).map oRow).length = k := by simp; omega
    refine ⟨fun _ => ⟨by omega, by simp; omega⟩, [oRow r], ⟨rfl, trivial⟩, .nils, ?_, ?_⟩
    · rw [Int.toNat_natCast, List.getElem?_append_right (by omega), htl, hrk]; simp
    refine ⟨fun _ => ⟨by omega, by omega⟩, k + 1, ⟨⟨rfl, rfl, rf, rf, le_int (by omega), trivial⟩, ⟨⟨rf, rf, rf, rf, trivial⟩, ⟨rfl, ?_⟩, trivial⟩, rfl, rfl⟩, by omega, by dsimp only; omega⟩
    show DV.osl 1 (((m.take k).map oRow ++ List.replicate (m.length - k) DV.nils).set (k : Int).toNat (oRow r)) = .osl 1 ((m.take (k + 1)).map oRow ++ List.replicate (m.length - (k + 1)) DV.nils)
    rw [Int.toNat_natCast, List.set_append_right _ _ (by omega), htl, hrk, Nat.sub_self, List.set_cons_zero, List.take_add_one, hro, List.map_append, List.append_assoc]
    rfl
  have hk : k = m.length := by
    have : ¬ (k : Int) < m.length := of_decide_eq_false h
    omega
  clear h
  subst hk
  refine ⟨AfI, fun z => ⟨2, [(3, .ptr 0 0), (5, .own 1 0 0 []), (27, .dv (ePut s.put)), (28, .dv (I s.put.length)), (29, .dv (I z.k))], [(0, .cells (dvs (eSs s).cells)), (1, .tree 0 0 (.osl 1 (z.m.map oRow)))]⟩, fun z => z.k ≤ s.put.length ∧ z.m = putAll m s.party (s.put.take z.k) ∧ Rect p n (1099511627776000000 + z.k * 1099511627776) z.m, fun z => s.put.length - z.k, ⟨0, m⟩, fun _ => rfl, ?_, ⟨by simp, rfl, hr.mono (by simp)⟩, ?_⟩
  · refine ⟨⟨rfl, rfl, rf, le_int (by simp), rf, trivial⟩, ⟨⟨rf, rf, rf, rf, trivial⟩, ⟨rfl, ?_⟩, trivial⟩, rfl, rfl⟩
    rw [List.take_length]; simp
  rintro ⟨k, m'⟩ ⟨hk1, hm', hr'⟩
  dsimp only at hk1 hm' hr'
  refine ⟨fun h => ?_, fun h => ?_⟩
  · have hk : k < s.put.length := by
      have : (k : Int) < s.put.length := of_decide_eq_true h
      omega
    clear h
    obtain ⟨hp0, hp1⟩ := hsp (by intro e; rw [e] at hk; simp at hk)
    have hpt : s.party.toNat < m'.length := by rw [hr'.len]; omega
    generalize hrw : m'[s.party.toNat] = row
    have hrow : m'[s.party.toNat]? = some row := by rw [List.getElem?_eq_getElem hpt, hrw]
    have hrl := hr'.row row (List.mem_of_getElem? hrow)
    generalize hpa' : s.put[k] = am
    have hpk : s.put[k]? = some am := by rw [List.getElem?_eq_getElem hk, hpa']
    obtain ⟨ha1, ha2, ha3, ha4⟩ := hsa am (List.mem_of_getElem? hpk)
    have hit : am.1.toNat < row.length := by omega
    generalize hre : row[am.1.toNat] = el
    have hel : row[am.1.toNat]? = some el := by rw [List.getElem?_eq_getElem hit, hre]
    have hbd := hr'.bd row (List.mem_of_getElem? hrow) el (List.mem_of_getElem? hel)
    have hdl : m'.length = p := hr'.len
    refine ⟨eAmt am, fun _ => ⟨by dsimp only; omega, by simp [hpk]⟩, ?_⟩
    refine ⟨fun _ => ⟨hp0, by simp; omega⟩, oRow row, fun _ => by simp [hrow], ?_⟩
    refine ⟨oRow row, fun _ => by simp [hrow], fun _ => ⟨ha1, by simp; omega⟩, ?_⟩
    refine ⟨oRow row, fun _ => by simp [hrow], I el, fun _ => by simp [hel], ?_⟩
    refine ⟨fun _ => ⟨by omega, by omega⟩, ?_⟩
    refine ⟨oRow row, fun _ => by simp [hrow], fun _ => ⟨ha1, by simp; omega⟩, ?_⟩
    refine ⟨[I (el + am.2)], ⟨rf, trivial⟩, oRow row, fun _ => by simp [hrow], I el, by simp [hel], oRow row, by simp [hrow], by kernel_rfl, ?_⟩
    refine ⟨fun _ => ⟨by dsimp only; omega, by dsimp only; omega⟩, ⟨k + 1, addAt m' s.party.toNat am.1.toNat am.2⟩, ⟨⟨rfl, rfl, rf, rf, le_int (by simp), trivial⟩, ⟨⟨rf, rf, rf, rf, trivial⟩, ⟨rfl, ?_⟩, trivial⟩, rfl, rfl⟩, ⟨by dsimp only; omega, ?_, (hr'.add ha3 _ _).mono (by dsimp only; omega)⟩, by dsimp only; omega⟩
    · exact congrArg (DV.osl 1) (addAt_map hrow hel)
    · dsimp only
      rw [List.take_add_one, hpk, putAll, List.foldl_append]
      show _ = addAt (putAll m s.party (s.put.take k)) _ _ _
      rw [← hm']
  · have hk : k = s.put.length := by
      have : ¬ (k : Int) < s.put.length := of_decide_eq_false h
      omega
    clear h
    subst hk
    rw [List.take_length] at hm'
    refine ⟨DV.Le.of_eq ?_, trivial⟩
    show DV.sl 1 (fzL (m'.map oRow)) = .sl 1 ((putAll m s.party s.put).map Ints)
    rw [← hm', fzL_eq, List.map_map]
    congr 1
    refine List.map_congr_left fun r _ => ?_
    show DV.sl 1 (fzL (r.map I)) = _
    rw [fzL_map fun _ => rfl]
end Go.Proofs.Ytfcfbfkjdenpdaa
