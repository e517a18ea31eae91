/- HeldBy: the plain law. -/
import Derived.Test.YtgcelhejmpcchaaPurHeldBy
namespace F2
set_option linter.unusedSimpArgs false
set_option linter.unusedSectionVars false
open Go Go.Fil Go.Proofs
set_option maxRecDepth 100000
set_option linter.unusedVariables false
theorem in01 {K : Nat} (n : Int) (h : 0 ≤ n ∧ n ≤ 1) : g37 K n 0 1 = some true ∧ g43 K n 0 1 = some true := by
  rw [g37.eq, g43.eq]
  refine ⟨?_, ?_⟩
  · exact (br_true (decide_eq_true h.1)).trans (congrArg some (decide_eq_true h.2))
  · exact (br_true (decide_eq_true h.1)).trans (congrArg some (decide_eq_true h.2))
theorem out01 {K : Nat} (n : Int) (h : ¬ (0 ≤ n ∧ n ≤ 1)) : g37 K n 0 1 = some false ∧ g43 K n 0 1 = some false := by
  rw [g37.eq, g43.eq]
  by_cases h0 : 0 ≤ n
  · have h1 : ¬ n ≤ 1 := fun h1 => h ⟨h0, h1⟩
    exact ⟨(br_true (decide_eq_true h0)).trans (congrArg some (decide_eq_false h1)), (br_true (decide_eq_true h0)).trans (congrArg some (decide_eq_false h1))⟩
  · exact ⟨br_false (decide_eq_false h0), br_false (decide_eq_false h0)⟩
theorem held_eq (K : Nat) (x : y46.T) (n : Int) (h : 0 ≤ n ∧ n ≤ 1) : ∀ (k : Nat) (v : Int) (o : List Int), L24_3 K k n v x o = L25_5 K k x n v o
  | 0, v, o => by rw [L24_3.zero, L25_5.zero]
  | k + 1, v, o => by
    rw [L24_3.step, L25_5.step, (in01 n h).1, Option.bind_some, br_t, held_eq K x n h k, held_eq K x n h k]
    cases hb : (decide (0 ≤ v) && decide (v < (List.length x.2.2.1 : Int)))
    · rfl
    · rfl
theorem held_run {K : Nat} (x : y46.T) (n : Int) (h : 0 ≤ n ∧ n ≤ 1) (hl : List.length x.2.2.1 ≤ 1048576) : ∀ (q v k : Nat) (o : List Int), v + q = List.length x.2.2.1 → q < k → o.length ≤ v → ∃ r, L25_5 K k x n (v : Int) o = some r ∧ r.length ≤ 1048576
  | 0, v, k + 1, o, hv, _, ho => by
    rw [L25_5.step, br_false (by simp; omega)]
    exact ⟨o, rfl, by omega⟩
  | q + 1, v, k + 1, o, hv, hk, ho => by
    rw [L25_5.step, br_true (by simp; omega), br_true (in_true (by omega) (by omega)), br_false (by simp; omega), wrap_id (by omega) (by omega)]
    cases hb : (((Fil.bits .and .i64 (Int.fdiv ((List.getD x.2.2.1 (Int.toNat (v : Int)) y111.zero).2.2.1) (2 ^ (min (Int.toNat n) (IntKind.bits .i64)))) 1) : Int) == 1)
    · rw [br_f]
      exact held_run x n h hl q (v + 1) k o (by omega) (by omega) (by omega)
    · rw [br_t, br_true (by simp; omega)]
      exact held_run x n h hl q (v + 1) k _ (by omega) (by omega) (by simp; omega)
  | _, _, 0, _, _, h, _ => absurd h (Nat.not_lt_zero _)
theorem held_none {K : Nat} (x : y46.T) (n : Int) (h : ¬ (0 ≤ n ∧ n ≤ 1)) (hl : List.length x.2.2.1 ≤ 1048576) : ∀ (q v k : Nat), v + q = List.length x.2.2.1 → q < k → L24_3 K k n (v : Int) x [] = some []
  | 0, v, k + 1, hv, _ => by
    rw [L24_3.step, br_false (by simp; omega)]
  | q + 1, v, k + 1, hv, hk => by
    rw [L24_3.step, br_true (by simp; omega), (out01 n h).1, Option.bind_some, br_f, wrap_id (by omega) (by omega)]
    exact held_none x n h hl q (v + 1) k (by omega) (by omega)
  | _, _, 0, _, h => absurd h (Nat.not_lt_zero _)
theorem heldBy {K : Nat} (hK : maxLen + 2 ≤ K) (x : y46.T) (n : Int) (hl : List.length x.2.2.1 ≤ 1048576) : ∃ r, g24 K x n = some r ∧ g25 K x n = some r ∧ r.length ≤ 1048576 := by
  have hm : maxLen = 2 ^ 63 - 1 := rfl
  by_cases h : 0 ≤ n ∧ n ≤ 1
  · obtain ⟨r, h1, h2⟩ := held_run (K := K) x n h hl _ 0 K [] (Nat.zero_add _) (by omega) (Nat.le_refl _)
    refine ⟨r, ?_, ?_, h2⟩
    · rw [g24.eq, held_eq K x n h]; exact h1
    · rw [g25.eq, (in01 n h).2, Option.bind_some, br_false (c := !true) rfl]; exact h1
  · refine ⟨[], ?_, ?_, by simp⟩
    · rw [g24.eq]; exact held_none x n h hl _ 0 K (Nat.zero_add _) (by omega)
    · rw [g25.eq, (out01 n h).2, Option.bind_some, br_true (c := !false) rfl]
theorem eqInts {K : Nat} (hK : maxLen + 2 ≤ K) (r : List Int) (h : r.length ≤ 1048576) : g20 K r r = some true := by
  have hm : maxLen = 2 ^ 63 - 1 := rfl
  rw [g20.eq]
  exact eq_fn (L := fun k v => L20_4 K k r r v) (G := fun a b => some (a == b)) (z := 0) hK (fun k v => L20_4.step K k r r v) (by omega) (fun y _ => by simp)
/-- k, k + 1, .. -/
def marks : Nat → Int → List Int
  | 0, _ => []
  | n + 1, k => k :: marks n (k + 1)
theorem marks_len : ∀ (n : Nat) (k : Int), (marks n k).length = n
  | 0, _ => rfl
  | n + 1, k => by rw [marks, List.length_cons, marks_len]
theorem marks_get : ∀ (n : Nat) (k : Int) (i : Nat), i < n → (marks n k)[i]? = some (k + i)
  | n + 1, k, 0, _ => by simp [marks]
  | n + 1, k, i + 1, h => by
    rw [marks, List.getElem?_cons_succ, marks_get n (k + 1) i (by omega)]
    congr 1; omega
  | 0, _, _, h => absurd h (Nat.not_lt_zero _)
theorem mark_loop {K : Nat} (N : Nat) (hN : N ≤ 1048576) : ∀ (n v k : Nat) (o : List Int), v + n = N → n < k → o.length = N → (∀ j, j < v → o[j]? = some (1 + (j : Int))) → X22_2 K k (1 + (v : Int)) (v : Int) o = some (1 + (N : Int), marks N 1)
  | 0, v, k + 1, o, hv, _, ho, hj => by
    rw [X22_2.step, br_false (by simp; omega)]
    have : o = marks N 1 := by
      apply List.ext_getElem?
      intro j
      by_cases h : j < v
      · rw [hj j h, marks_get N 1 j (by omega)]
      · rw [List.getElem?_eq_none (by omega), List.getElem?_eq_none (by rw [marks_len]; omega)]
    rw [this]
    congr 2; omega
  | n + 1, v, k + 1, o, hv, hk, ho, hj => by
    rw [X22_2.step, br_true (by simp; omega), br_true (in_true (by omega) (by omega)), wrap_id (by omega) (by omega), wrap_id (by omega) (by omega)]
    have := mark_loop (K := K) N hN n (v + 1) k (o.set (Int.toNat (v : Int)) (1 + (v : Int))) (by omega) (by omega) (by simpa using ho) (by
      intro j hjv
      rw [Int.toNat_natCast, List.getElem?_set]
      by_cases e : v = j
      · subst e; rw [if_pos rfl, if_pos (by omega)]
      · rw [if_neg e]; exact hj j (by omega))
    rw [← this]
    congr 1
  | _, _, 0, _, _, h, _, _ => absurd h (Nat.not_lt_zero _)
theorem markInts {K : Nat} (hK : maxLen + 2 ≤ K) (r : List Int) (h : r.length ≤ 1048576) : h22 K r 1 = some (1 + (r.length : Int), marks r.length 1) := by
  have hm : maxLen = 2 ^ 63 - 1 := rfl
  rw [h22.eq]
  exact mark_loop r.length h r.length 0 K r (by omega) (by omega) rfl (fun j hj => absurd hj (Nat.not_lt_zero _))
theorem held_loop {K : Nat} (N : Nat) (hN : N ≤ 1048576) : ∀ (n v k : Nat), v + n = N → n < k → L23_2 K k (marks N 1) (1 + (v : Int)) (v : Int) = some (1 + (N : Int))
  | 0, v, k + 1, hv, _ => by
    have : v = N := by omega
    subst this
    rw [L23_2.step, br_false (by rw [marks_len]; simp)]
  | n + 1, v, k + 1, hv, hk => by
    have hg : List.getD (marks N 1) (Int.toNat (v : Int)) 0 = 1 + (v : Int) := by
      rw [Int.toNat_natCast, List.getD_eq_getElem?_getD, marks_get N 1 v (by omega)]; rfl
    rw [L23_2.step, br_true (by rw [marks_len]; simp; omega), br_true (in_true (by omega) (by rw [marks_len]; omega)), hg, br_false (ne_self _), wrap_id (by omega) (by omega), wrap_id (by omega) (by omega)]
    have := held_loop (K := K) N hN n (v + 1) k (by omega) (by omega)
    rw [← this]
    congr 1
  | _, _, 0, _, h => absurd h (Nat.not_lt_zero _)
theorem heldInts {K : Nat} (hK : maxLen + 2 ≤ K) (N : Nat) (h : N ≤ 1048576) : g23 K (marks N 1) 1 = some (1 + (N : Int)) := by
  have hm : maxLen = 2 ^ 63 - 1 := rfl
  rw [g23.eq]
  exact held_loop N h N 0 K (by omega) (by omega)
end F2
