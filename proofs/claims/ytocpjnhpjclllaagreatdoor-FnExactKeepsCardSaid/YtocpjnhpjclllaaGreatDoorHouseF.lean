/- The house: pairs, and the whole. -/
import Derived.Test.YtocpjnhpjclllaaGreatDoorHouseE
namespace F5
set_option linter.unusedSimpArgs false
open Go Go.Fil Go.Proofs Go.Fil.Cf
set_option maxRecDepth 100000
set_option linter.unusedVariables false
theorem pairs2 {K : Nat} (hK : maxLen + 2 ≤ K) (h : S_impl_House) (hs : HS h) : ∀ (q i k : Nat), i + q = h.2.2.2.2.2.2.1.length → q < k → ∃ b, L_spec_l10Pairs_9 K k (i : Int) h = some b ∧ L_impl_pairsOk_10 K k (i : Int) h = some b
  | 0, i, k + 1, hi, hk => by
    rw [L_spec_l10Pairs_9.step, L_impl_pairsOk_10.step, br_false (decide_eq_false (by omega)), br_false (decide_eq_false (by omega))]
    exact ⟨true, rfl, rfl⟩
  | q + 1, i, k + 1, hi, hk => by
    have hll := hs.ll
    have hin : (decide (0 ≤ (i : Int)) && decide ((i : Int) < ((h.2.2.2.2.2.2.1.length : Nat) : Int))) = true := by simp; omega
    obtain ⟨b, b1, b2⟩ := pairs2 hK h hs q (i + 1) k (by omega) (by omega)
    rw [Int.natCast_add] at b1 b2
    obtain ⟨r, r1, r2, r3⟩ := askAt hK h.2.2.2.2.2.1 hs.la (lnAt h.2.2.2.2.2.2.1 i).2.2.2.2.2.1
    rw [L_spec_l10Pairs_9.step, L_impl_pairsOk_10.step, br_true (c := decide ((i : Int) < ((h.2.2.2.2.2.2.1.length : Nat) : Int))) (decide_eq_true (by omega)), br_true (c := decide ((i : Int) < ((h.2.2.2.2.2.2.1.length : Nat) : Int))) (decide_eq_true (by omega)), hin]
    simp only [br_t]
    rw [show (i : Int).toNat = i by omega, wrap_id (k := (i : Int) + 1) (by omega) (by omega), r1, r2]
    simp only [Option.bind_some]
    by_cases s0 : (lnAt h.2.2.2.2.2.2.1 i).2.2.2.1 = 0
    · rw [br_false (c := ((lnAt h.2.2.2.2.2.2.1 i).2.2.2.1 : Int) != 0) (bne_false s0), br_false (c := ((lnAt h.2.2.2.2.2.2.1 i).2.2.2.1 : Int) != 0) (bne_false s0)]
      exact ⟨b, b1, b2⟩
    · rw [br_true (c := ((lnAt h.2.2.2.2.2.2.1 i).2.2.2.1 : Int) != 0) (bne_true s0), br_true (c := ((lnAt h.2.2.2.2.2.2.1 i).2.2.2.1 : Int) != 0) (bne_true s0)]
      by_cases hr : r < 0
      · rw [br_true (decide_eq_true hr), br_true (decide_eq_true hr)]
        exact ⟨false, rfl, rfl⟩
      · rw [br_false (decide_eq_false hr), br_false (decide_eq_false hr)]
        rcases r3 with ⟨g, _⟩ | ⟨j, j1, rfl, j3⟩
        · exact absurd g hr
        · have hin2 : (decide (0 ≤ (j : Int)) && decide ((j : Int) < ((h.2.2.2.2.2.1.length : Nat) : Int))) = true := by simp; omega
          rw [hin2, br_t, br_t, show (j : Int).toNat = j by omega]
          obtain ⟨e, c, c1⟩ := lent_eq K (akAt h.2.2.2.2.2.1 j) (lnAt h.2.2.2.2.2.2.1 i)
          rw [e, c1, Option.bind_some, Option.bind_some]
          cases c
          · exact ⟨false, rfl, rfl⟩
          · exact ⟨b, b1, b2⟩
  | _, _, 0, _, h => absurd h (Nat.not_lt_zero _)
theorem pairs1 {K : Nat} (hK : maxLen + 2 ≤ K) (h : S_impl_House) (hs : HS h) (hst : ∀ j, j < h.2.2.2.2.2.1.length → 0 ≤ (akAt h.2.2.2.2.2.1 j).2.2.1 ∧ (akAt h.2.2.2.2.2.1 j).2.2.1 ≤ 4) : ∀ (q i k : Nat), i + q = h.2.2.2.2.2.1.length → q < k → ∃ b, L_spec_l10Pairs_2 K k (i : Int) h = some b ∧ L_impl_pairsOk_2 K k h (i : Int) h = some b
  | 0, i, k + 1, hi, hk => by
    have hm : maxLen = 2 ^ 63 - 1 := rfl
    have hll := hs.ll
    rw [L_spec_l10Pairs_2.step, L_impl_pairsOk_2.step, br_false (decide_eq_false (by omega)), br_false (decide_eq_false (by omega))]
    exact pairs2 hK h hs h.2.2.2.2.2.2.1.length 0 K (by omega) (by omega)
  | q + 1, i, k + 1, hi, hk => by
    have hla := hs.la
    have hin : (decide (0 ≤ (i : Int)) && decide ((i : Int) < ((h.2.2.2.2.2.1.length : Nat) : Int))) = true := by simp; omega
    obtain ⟨b, b1, b2⟩ := pairs1 hK h hs hst q (i + 1) k (by omega) (by omega)
    rw [Int.natCast_add] at b1 b2
    obtain ⟨r, r1, r2, r3⟩ := lineAt hK h.2.2.2.2.2.2.1 hs.ll (akAt h.2.2.2.2.2.1 i).2.2.2.2.2.2.1
    obtain ⟨t1, t2⟩ := hst i (by omega)
    rw [L_spec_l10Pairs_2.step, L_impl_pairsOk_2.step, br_true (c := decide ((i : Int) < ((h.2.2.2.2.2.1.length : Nat) : Int))) (decide_eq_true (by omega)), br_true (c := decide ((i : Int) < ((h.2.2.2.2.2.1.length : Nat) : Int))) (decide_eq_true (by omega)), hin]
    simp only [br_t]
    rw [show (i : Int).toNat = i by omega, wrap_id (k := (i : Int) + 1) (by omega) (by omega), r1, r2]
    simp only [Option.bind_some]
    have both : ∃ b', br (decide (r < 0)) (some false) (br (decide (0 ≤ r) && decide (r < ((h.2.2.2.2.2.2.1.length : Nat) : Int))) ((g_spec_l10Lent K (akAt h.2.2.2.2.2.1 i) (lnAt h.2.2.2.2.2.2.1 r.toNat)).bind fun y_2 => br (!y_2) (some false) (L_spec_l10Pairs_2 K k ((i : Int) + 1) h)) none) = some b' ∧ br (decide (r < 0)) (some false) (br (decide (0 ≤ r) && decide (r < ((h.2.2.2.2.2.2.1.length : Nat) : Int))) ((g_impl_leased K (akAt h.2.2.2.2.2.1 i) (lnAt h.2.2.2.2.2.2.1 r.toNat)).bind fun y_2 => br (!y_2) (some false) (L_impl_pairsOk_2 K k h ((i : Int) + 1) h)) none) = some b' := by
      by_cases hr : r < 0
      · rw [br_true (decide_eq_true hr), br_true (decide_eq_true hr)]
        exact ⟨false, rfl, rfl⟩
      · rw [br_false (decide_eq_false hr), br_false (decide_eq_false hr)]
        rcases r3 with ⟨g, _⟩ | ⟨j, j1, rfl, j3⟩
        · exact absurd g hr
        · have hin2 : (decide (0 ≤ (j : Int)) && decide ((j : Int) < ((h.2.2.2.2.2.2.1.length : Nat) : Int))) = true := by simp; omega
          rw [hin2, br_t, br_t, show (j : Int).toNat = j by omega]
          obtain ⟨e, c, c1⟩ := lent_eq K (akAt h.2.2.2.2.2.1 i) (lnAt h.2.2.2.2.2.2.1 j)
          rw [e, c1, Option.bind_some, Option.bind_some]
          cases c
          · exact ⟨false, rfl, rfl⟩
          · exact ⟨b, b1, b2⟩
    by_cases s3 : (akAt h.2.2.2.2.2.1 i).2.2.1 = 3
    · rw [br_true (c := decide (((akAt h.2.2.2.2.2.1 i).2.2.1 : Int) ≥ 3)) (decide_eq_true (by omega)), br_true (c := ((akAt h.2.2.2.2.2.1 i).2.2.1 : Int) == 3) (beq_true s3)]
      exact both
    · rw [br_false (c := ((akAt h.2.2.2.2.2.1 i).2.2.1 : Int) == 3) (beq_false s3)]
      by_cases s4 : (akAt h.2.2.2.2.2.1 i).2.2.1 = 4
      · rw [br_true (c := decide (((akAt h.2.2.2.2.2.1 i).2.2.1 : Int) ≥ 3)) (decide_eq_true (by omega)), br_true (c := ((akAt h.2.2.2.2.2.1 i).2.2.1 : Int) == 4) (beq_true s4)]
        exact both
      · rw [br_false (c := decide (((akAt h.2.2.2.2.2.1 i).2.2.1 : Int) ≥ 3)) (decide_eq_false (by omega)), br_false (c := ((akAt h.2.2.2.2.2.1 i).2.2.1 : Int) == 4) (beq_false s4)]
        exact ⟨b, b1, b2⟩
  | _, _, 0, _, h => absurd h (Nat.not_lt_zero _)
theorem pairs {K : Nat} (hK : maxLen + 2 ≤ K) (h : S_impl_House) (hs : HS h) (hl : ListsP K h) : ∃ b, g_spec_l10Pairs K h = some b ∧ g_impl_pairsOk K h = some b := by
  have hm : maxLen = 2 ^ 63 - 1 := rfl
  have hla := hs.la
  obtain ⟨b, b1, b2⟩ := pairs1 hK h hs (fun j hj => (hl.1 j hj).1.2.1) h.2.2.2.2.2.1.length 0 K (by omega) (by omega)
  exact ⟨b, by rw [g_spec_l10Pairs.eq]; exact b1, by rw [g_impl_pairsOk.eq]; exact b2⟩
/-! ### alike -/
theorem conf_same (K : Nat) (x y : List S_impl_Db) : ∀ (k : Nat) (v : Int), L_slices_Equal_S_impl_Db_4 K k x y v = L_spec_SameConf_4 K k x y v
  | 0, v => by rw [L_slices_Equal_S_impl_Db_4.zero, L_spec_SameConf_4.zero]
  | k + 1, v => by rw [L_slices_Equal_S_impl_Db_4.step, L_spec_SameConf_4.step, conf_same K x y k]
theorem conf_run {K : Nat} (x y : List S_impl_Db) (hx : x.length ≤ 1048576) (hxy : x.length = y.length) : ∀ (q i k : Nat), i + q = x.length → q < k → ∃ b, L_spec_SameConf_4 K k x y (i : Int) = some b
  | 0, i, k + 1, hi, hk => by
    rw [L_spec_SameConf_4.step, br_false (decide_eq_false (by omega))]
    exact ⟨_, rfl⟩
  | q + 1, i, k + 1, hi, hk => by
    obtain ⟨b, b1⟩ := conf_run (K := K) x y hx hxy q (i + 1) k (by omega) (by omega)
    rw [Int.natCast_add] at b1
    rw [L_spec_SameConf_4.step, br_true (decide_eq_true (by omega)), br_true (by simp; omega), br_true (by simp; omega), wrap_id (k := (i : Int) + 1) (by omega) (by omega)]
    cases !(eqT T_impl_Db (List.getD x (i : Int).toNat T_impl_Db.zero) (List.getD y (i : Int).toNat T_impl_Db.zero) == true)
    · exact ⟨b, b1⟩
    · exact ⟨false, rfl⟩
  | _, _, 0, _, h => absurd h (Nat.not_lt_zero _)
theorem sameConf {K : Nat} (hK : maxLen + 2 ≤ K) (x y : List S_impl_Db) (hx : x.length ≤ 1048576) : ∃ b, g_spec_SameConf K x y = some b ∧ g_impl_SameConf K x y = some b := by
  have hm : maxLen = 2 ^ 63 - 1 := rfl
  rw [g_spec_SameConf.eq, g_impl_SameConf.eq, g_slices_Equal_S_impl_Db.eq, conf_same]
  by_cases h : x.length = y.length
  · rw [br_false (bne_false (by omega))]
    obtain ⟨b, b1⟩ := conf_run (K := K) x y hx h x.length 0 K (by omega) (by omega)
    have b1 : L_spec_SameConf_4 K K x y 0 = some b := b1
    exact ⟨b, b1, by rw [b1]; rfl⟩
  · rw [br_true (bne_true (by omega))]
    exact ⟨false, rfl, rfl⟩
theorem conf_nil {K : Nat} (hK : maxLen + 2 ≤ K) (x : List S_impl_Db) : g_impl_SameConf K x [] = some (decide (x.length = 0)) := by
  have hm : maxLen = 2 ^ 63 - 1 := rfl
  obtain ⟨k, rfl⟩ : ∃ m, K = m + 1 := ⟨K - 1, by omega⟩
  rw [g_impl_SameConf.eq, g_slices_Equal_S_impl_Db.eq]
  by_cases h : x.length = 0
  · rw [br_false (bne_false (by simp; exact List.eq_nil_of_length_eq_zero h)), L_slices_Equal_S_impl_Db_4.step, br_false (decide_eq_false (by omega))]
    simp [h]
  · rw [br_true (bne_true (by simp; exact fun e => h (by simp [e])))]
    simp [h]
theorem asks_nil {K : Nat} (hK : maxLen + 2 ≤ K) (x : List S_impl_Asker) : g_slices_Equal_S_impl_Asker K x [] = some (decide (x.length = 0)) := by
  have hm : maxLen = 2 ^ 63 - 1 := rfl
  obtain ⟨k, rfl⟩ : ∃ m, K = m + 1 := ⟨K - 1, by omega⟩
  rw [g_slices_Equal_S_impl_Asker.eq]
  by_cases h : x.length = 0
  · rw [br_false (bne_false (by simp; exact List.eq_nil_of_length_eq_zero h)), L_slices_Equal_S_impl_Asker_4.step, br_false (decide_eq_false (by omega))]
    simp [h]
  · rw [br_true (bne_true (by simp; exact fun e => h (by simp [e])))]
    simp [h]
theorem lines_nil {K : Nat} (hK : maxLen + 2 ≤ K) (x : List S_impl_Line) : g_slices_Equal_S_impl_Line K x [] = some (decide (x.length = 0)) := by
  have hm : maxLen = 2 ^ 63 - 1 := rfl
  obtain ⟨k, rfl⟩ : ∃ m, K = m + 1 := ⟨K - 1, by omega⟩
  rw [g_slices_Equal_S_impl_Line.eq]
  by_cases h : x.length = 0
  · rw [br_false (bne_false (by simp; exact List.eq_nil_of_length_eq_zero h)), L_slices_Equal_S_impl_Line_4.step, br_false (decide_eq_false (by omega))]
    simp [h]
  · rw [br_true (bne_true (by simp; exact fun e => h (by simp [e])))]
    simp [h]
end F5
