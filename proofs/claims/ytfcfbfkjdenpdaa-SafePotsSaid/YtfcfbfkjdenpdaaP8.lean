/- Contracts: Clone and after on rows that lie in a map. -/
import Derived.Test.YtfcfbfkjdenpdaaP5
import Derived.Test.YtfcfbfkjdenpdaaD4
set_option linter.unusedVariables false
set_option linter.unusedSimpArgs false
set_option linter.unusedSectionVars false
namespace Go.Proofs.Ytfcfbfkjdenpdaa
open Go.TM

theorem closed_ints (l : List Int) : ∀ x, x ∈ l.map I → x.closedCells := fun x hx => by
  obtain ⟨n, -, rfl⟩ := List.mem_map.1 hx
  exact closed_int n
theorem clone2_spec (M : List DV) (q : Int) (rows : Rows) (hM : mget M (I q) = some (.osl 1 (rows.map oRow))) (k : Nat) (l : List Int) (hr : rows[k]? = some l) (hl : l.length ≤ 1000) : CSpec Try.prog 81 [.own 0 0 0 [.key (I q) 0, .el k 0]] 1 [(0, .tree 0 0 (.omap intK M))] 1 [.own 1 0 0 []] [(0, .tree 0 0 (.omap intK M)), (1, .tree 0 0 (.osl 1 (l.map I)))] := by
  refine cspec_of tab_ok mixed (calls_snd _) (range_snd _) Try.func81 rfl rfl (by kernel_rfl) ?_
  have h1 : true = true → mget M (I q) = some (.osl 1 (rows.map oRow)) := fun _ => hM
  have h2 : true = true → (rows.map oRow)[k]? = some (oRow l) := fun _ => by simp [hr]
  cases l with
  | nil =>
    refine ⟨.osl 1 (rows.map oRow), h1, oRow [], h2, .inl ⟨?_, ?_⟩⟩
    · exact ⟨_, _, ⟨rfl, rfl⟩, rfl, ⟨⟨rfl, rfl, rfl, rfl, 1, rfl⟩, trivial⟩, ⟨rfl, rfl⟩, ⟨rfl, rfl, 1, rfl⟩, trivial⟩
    · refine .inr (.inl ⟨[], rfl, trivial, (fun x hx => by cases hx), .inr ⟨.osl 1 (rows.map oRow), h1, oRow [], h2, .inl ⟨(fun x hx => by cases hx), ?_⟩⟩⟩)
      exact ⟨[], trivial, by simp, by simp, _, _, ⟨rfl, rfl⟩, rfl, ⟨rfl, trivial⟩, ⟨rfl, rfl⟩, ⟨rfl, rfl⟩, trivial⟩
  | cons x l =>
    refine ⟨.osl 1 (rows.map oRow), h1, oRow (x :: l), h2, .inr ⟨by simp, (fun h => by cases h), fun _ => ?_⟩⟩
    refine .inr (.inl ⟨[], rfl, trivial, (fun x hx => by cases hx), .inr ⟨.osl 1 (rows.map oRow), h1, oRow (x :: l), h2, .inl ⟨closed_ints (x :: l), ?_⟩⟩⟩)
    exact ⟨(x :: l).map I, ELes.refl _, by rw [by22]; simp at hl ⊢; omega, by simp at hl ⊢; omega, _, _, ⟨rfl, rfl⟩, rfl, ⟨rfl, trivial⟩, ⟨rfl, rfl⟩, ⟨rfl, rfl⟩, trivial⟩
set_option maxHeartbeats 4000000 in
theorem after2_spec (M : List DV) (q : Int) (n : Nat) (hn : n ≤ 1000) (m : Rows) (p : Nat) (hp : p ≤ 4) (hr : Rect p n 1099511627776000000 m) (s : Stp) (hsp : s.put ≠ [] → 0 ≤ s.party ∧ s.party < p) (hsl : s.put.length ≤ 1000) (hsa : ∀ a, a ∈ s.put → 0 ≤ a.1 ∧ a.1 < n ∧ 0 ≤ a.2 ∧ a.2 ≤ 1099511627776) (hM : mget M (I q) = some (.osl 1 (m.map oRow))) : CSpec Try.prog 58 [.own 0 0 0 [.key (I q) 0], sA s] 1 [(0, .tree 0 0 (.omap intK M))] 0 [.dv (eRows (putAll m s.party s.put))] [(0, .tree 0 0 (.omap intK M))] := by
  refine cspec_of tab_ok mixed (calls_snd _) (range_snd _) Try.func58 rfl rfl (by kernel_rfl) ?_
  have h1 : true = true → mget M (I q) = some (.osl 1 (m.map oRow)) := fun _ => hM
  have hml := hr.len
  refine ⟨.osl 1 (m.map oRow), h1, .nils, ⟨rf, trivial⟩, by simp, by simp, by rw [by26]; simp; omega, by simp; omega, false, (fun h => by cases h), ?_⟩
  refine ⟨.osl 1 (m.map oRow), h1, ?_⟩
  refine ⟨Nat, fun k => ⟨3, [(3, .ptr 1 0), (5, .own 2 0 0 []), (13, .own 0 0 0 [.key (I q) 0]), (14, .dv (I m.length)), (15, .dv (I k))], [(0, .tree 0 0 (.omap intK M)), (1, .cells (dvs (eSs s).cells)), (2, .tree 0 0 (.osl 1 ((m.take k).map oRow ++ List.replicate (m.length - k) .nils)))]⟩, fun k => k ≤ m.length, fun k => m.length - k, 0, fun _ => rfl, ?_, by omega, ?_⟩
  · refine ⟨⟨rfl, rfl, rfl, le_int (by simp), rf, trivial⟩, ⟨⟨rfl, rfl⟩, ⟨rf, rf, rf, rf, trivial⟩, ⟨rfl, ?_⟩, trivial⟩, rfl, rfl⟩
    show DV.osl 1 (List.replicate ((m.map oRow).length : Int).toNat .nils) = _
    simp
  intro k hk1
  refine ⟨fun h => ?_, fun h => ?_⟩
  · have hk : k < m.length := by
      have : (k : Int) < m.length := of_decide_eq_true h
      omega
    clear h
    generalize hr' : m[k] = r at *
    have hro : m[k]? = some r := by rw [List.getElem?_eq_getElem hk, hr']
    have hrl := hr.row r (List.mem_of_getElem? hro)
    refine ⟨.osl 1 (m.map oRow), h1, fun _ => ⟨by omega, by simp; omega⟩, .osl 1 (m.map oRow), h1, oRow r, fun _ => by simp [hro], ?_⟩
    refine .inr ⟨[0], [.own 0 0 0 [.key (I q) 0, .el k 0]], [(0, .tree 0 0 (.omap intK M))], 1, _, _, clone2_spec M q m hM k r hro (by omega), rfl, rfl, ⟨rfl, trivial⟩, ⟨⟨rfl, rfl⟩, trivial⟩, ?_⟩
    have hrk : List.replicate (m.length - k) DV.nils = DV.nils :: List.replicate (m.length - (k + 1)) DV.nils := by
      rw [show m.length - k = (m.length - (k + 1)) + 1 by omega, List.replicate_succ]
    have htl : ((m.take k).map oRow).length = k := by simp; omega
    refine ⟨fun _ => ⟨by omega, by simp; omega⟩, [oRow r], ⟨rfl, trivial⟩, .nils, ?_, ?_⟩
    · rw [Int.toNat_natCast, List.getElem?_append_right (by omega), htl, hrk]; simp
    refine ⟨fun _ => ⟨by omega, by omega⟩, k + 1, ⟨⟨rfl, rfl, rfl, rf, le_int (by omega), trivial⟩, ⟨⟨rfl, rfl⟩, ⟨rf, rf, rf, rf, trivial⟩, ⟨rfl, ?_⟩, trivial⟩, rfl, rfl⟩, by omega, by dsimp only; omega⟩
    show DV.osl 1 (((m.take k).map oRow ++ List.replicate (m.length - k) DV.nils).set (k : Int).toNat (oRow r)) = .osl 1 ((m.take (k + 1)).map oRow ++ List.replicate (m.length - (k + 1)) DV.nils)
    rw [Int.toNat_natCast, List.set_append_right _ _ (by omega), htl, hrk, Nat.sub_self, List.set_cons_zero, List.take_add_one, hro, List.map_append, List.append_assoc]
    rfl
  have hk : k = m.length := by
    have : ¬ (k : Int) < m.length := of_decide_eq_false h
    omega
  clear h
  subst hk
  refine ⟨AfI, fun z => ⟨3, [(3, .ptr 1 0), (5, .own 2 0 0 []), (27, .dv (ePut s.put)), (28, .dv (I s.put.length)), (29, .dv (I z.k))], [(0, .tree 0 0 (.omap intK M)), (1, .cells (dvs (eSs s).cells)), (2, .tree 0 0 (.osl 1 (z.m.map oRow)))]⟩, fun z => z.k ≤ s.put.length ∧ z.m = putAll m s.party (s.put.take z.k) ∧ Rect p n (1099511627776000000 + z.k * 1099511627776) z.m, fun z => s.put.length - z.k, ⟨0, m⟩, fun _ => rfl, ?_, ⟨by simp, rfl, hr.mono (by simp)⟩, ?_⟩
  · refine ⟨⟨rfl, rfl, rf, le_int (by simp), rf, trivial⟩, ⟨⟨rfl, rfl⟩, ⟨rf, rf, rf, rf, trivial⟩, ⟨rfl, ?_⟩, trivial⟩, rfl, rfl⟩
    rw [List.take_length]; simp
  rintro ⟨k, m'⟩ ⟨hk1, hm', hr'⟩
  dsimp only at hk1 hm' hr'
  refine ⟨fun h => ?_, fun h => ?_⟩
  · have hk : k < s.put.length := by
      have : (k : Int) < s.put.length := of_decide_eq_true h
      omega
    clear h
    obtain ⟨hp0, hp1⟩ := hsp (by intro e; rw [e] at hk; simp at hk)
    have hpt : s.party.toNat < m'.length := by rw [hr'.len]; omega
    generalize hrw : m'[s.party.toNat] = row
    have hrow : m'[s.party.toNat]? = some row := by rw [List.getElem?_eq_getElem hpt, hrw]
    have hrl := hr'.row row (List.mem_of_getElem? hrow)
    generalize hpa' : s.put[k] = am
    have hpk : s.put[k]? = some am := by rw [List.getElem?_eq_getElem hk, hpa']
    obtain ⟨ha1, ha2, ha3, ha4⟩ := hsa am (List.mem_of_getElem? hpk)
    have hit : am.1.toNat < row.length := by omega
    generalize hre : row[am.1.toNat] = el
    have hel : row[am.1.toNat]? = some el := by rw [List.getElem?_eq_getElem hit, hre]
    have hbd := hr'.bd row (List.mem_of_getElem? hrow) el (List.mem_of_getElem? hel)
    have hdl : m'.length = p := hr'.len
    refine ⟨eAmt am, fun _ => ⟨by dsimp only; omega, by simp [hpk]⟩, ?_⟩
    refine ⟨fun _ => ⟨hp0, by simp; omega⟩, oRow row, fun _ => by simp [hrow], ?_⟩
    refine ⟨oRow row, fun _ => by simp [hrow], fun _ => ⟨ha1, by simp; omega⟩, ?_⟩
    refine ⟨oRow row, fun _ => by simp [hrow], I el, fun _ => by simp [hel], ?_⟩
    refine ⟨fun _ => ⟨by omega, by omega⟩, ?_⟩
    refine ⟨oRow row, fun _ => by simp [hrow], fun _ => ⟨ha1, by simp; omega⟩, ?_⟩
    refine ⟨[I (el + am.2)], ⟨rf, trivial⟩, oRow row, fun _ => by simp [hrow], I el, by simp [hel], oRow row, by simp [hrow], by kernel_rfl, ?_⟩
    refine ⟨fun _ => ⟨by dsimp only; omega, by dsimp only; omega⟩, ⟨k + 1, addAt m' s.party.toNat am.1.toNat am.2⟩, ⟨⟨rfl, rfl, rf, rf, le_int (by simp), trivial⟩, ⟨⟨rfl, rfl⟩, ⟨rf, rf, rf, rf, trivial⟩, ⟨rfl, ?_⟩, trivial⟩, rfl, rfl⟩, ⟨by dsimp only; omega, ?_, (hr'.add ha3 _ _).mono (by dsimp only; omega)⟩, by dsimp only; omega⟩
    · exact congrArg (DV.osl 1) (addAt_map hrow hel)
    · dsimp only
      rw [List.take_add_one, hpk, putAll, List.foldl_append]
      show _ = addAt (putAll m s.party (s.put.take k)) _ _ _
      rw [← hm']
  · have hk : k = s.put.length := by
      have : ¬ (k : Int) < s.put.length := of_decide_eq_false h
      omega
    clear h
    subst hk
    rw [List.take_length] at hm'
    refine ⟨_, _, ⟨rfl, rfl⟩, rfl, ⟨DV.Le.of_eq ?_, trivial⟩, ⟨rfl, rfl⟩, trivial⟩
    show DV.sl 1 (fzL (m'.map oRow)) = .sl 1 ((putAll m s.party s.put).map Ints)
    rw [← hm', fzL_eq, List.map_map]
    congr 1
    refine List.map_congr_left fun r _ => ?_
    show DV.sl 1 (fzL (r.map I)) = _
    rw [fzL_map fun _ => rfl]
set_option maxHeartbeats 4000000 in
theorem to2_spec (d : Dea) (b : PB) (o : List Int) (s : Int) (way : List Int) (h : TW b s way) (hw : way.length ≤ 100000) : CSpec Try.prog 42 [.ptr 2 0, .dv (I s)] 4 (tK d b o) 1 [.own 4 0 0 []] (tK d b o ++ [(4, .tree 0 0 (.osl 1 (way.map I)))]) := by
  refine cspec_of tab_ok mixed (calls_snd _) (range_snd _) Try.func42 rfl rfl (by kernel_rfl) ?_
  refine ⟨ToI, fun z => ⟨5, [(0, .ptr 2 0), (1, .dv (I z.s)), (5, .own 4 0 0 [])], tK d b o ++ [(4, .tree 0 0 (.osl 1 (z.acc.map I)))]⟩, fun z => TW b z.s z.w ∧ way = z.w ++ z.acc.reverse, fun z => z.w.length, ⟨s, way, []⟩, fun _ => rfl, ?_, ⟨h, by simp⟩, ?_⟩
  · exact ⟨⟨rfl, rf, ⟨rfl, rfl, rfl, rfl, 1, rfl⟩, trivial⟩, ⟨⟨rfl, rfl⟩, ⟨rfl, rfl⟩, ⟨rf, rf, rf, rfl, rfl, rfl, trivial⟩, ⟨rfl, rfl⟩, ⟨rfl, rfl, 1, rfl⟩, trivial⟩, rfl, rfl⟩
  · rintro ⟨s, w, acc⟩ ⟨ht, hway⟩
    dsimp only at ht hway
    have hal : w.length + acc.length = way.length := by rw [hway]; simp
    cases ht with
    | @nil _ p hf hp =>
      refine ⟨keyT3, I s, rfl, rfl, I p, true, fun _ => ?_, (fun h => by cases h), rfl, ?_⟩
      · rw [mget_int (fun x => I x), hf]; rfl
      refine ⟨fun h => ?_, fun _ => ?_⟩
      · exfalso
        have h : (0 : Int) ≤ p := of_decide_eq_true h
        omega
      refine .inr ⟨[4], [.own 0 0 0 []], [(0, .tree 0 0 (.osl 1 (acc.map I)))], 0, _, _, reverse_spec acc (by omega), rfl, rfl, ⟨rfl, trivial⟩, ⟨⟨rfl, rfl⟩, trivial⟩, ?_⟩
      refine ⟨_, _, ⟨rfl, rfl⟩, by kernel_rfl, ⟨rfl, trivial⟩, ⟨rfl, rfl⟩, ⟨rfl, rfl⟩, ⟨rf, rf, rf, rfl, rfl, rfl, trivial⟩, ⟨rfl, rfl⟩, ⟨rfl, ?_⟩, trivial⟩
      rw [hway]; rfl
    | @snoc _ p st w hf hp hst hr =>
      refine ⟨keyT3, I s, rfl, rfl, I p, true, fun _ => ?_, (fun h => by cases h), rfl, ?_⟩
      · rw [mget_int (fun x => I x), hf]; rfl
      refine ⟨fun _ => ?_, fun h => ?_⟩
      · refine ⟨keyT3, I s, rfl, rfl, eSs st, true, fun _ => ?_, (fun h => by cases h), rfl, ?_⟩
        · rw [mget_int eSs, hst]; rfl
        simp only [List.length_append, List.length_cons, List.length_nil] at hal
        refine .inl ⟨[I st.label], rfl, ⟨rf, trivial⟩, fun y hy => (by rcases List.mem_singleton.1 hy with rfl; rfl), .inr ⟨[I st.label], ELes.refl _, (by rw [by22]; simp; omega), (by simp; omega), ?_⟩⟩
        refine ⟨keyT3, I s, rfl, rfl, I p, true, fun _ => ?_, (fun h => by cases h), rfl, ?_⟩
        · rw [mget_int (fun x => I x), hf]; rfl
        refine ⟨⟨p, w, acc ++ [st.label]⟩, ⟨⟨rfl, rf, rfl, trivial⟩, ⟨⟨rfl, rfl⟩, ⟨rfl, rfl⟩, ⟨rf, rf, rf, rfl, rfl, rfl, trivial⟩, ⟨rfl, rfl⟩, ⟨rfl, by simp⟩, trivial⟩, rfl, rfl⟩, ⟨hr, by simp [hway]⟩, by simp⟩
      · exfalso
        have h : ¬ (0 : Int) ≤ p := of_decide_eq_false h
        omega
end Go.Proofs.Ytfcfbfkjdenpdaa
