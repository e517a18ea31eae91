/- Said's plain law, a part: the program's text and the reference's come to the same. -/
import Derived.Test.YtgcelhejmpcchaaPlainSaidC
namespace F2
set_option linter.unusedSimpArgs false
set_option linter.unusedSectionVars false
open Go Go.Fil Go.Proofs
set_option maxRecDepth 100000
set_option linter.unusedVariables false
theorem getFrame {K : Nat} (hK : maxLen + 2 ≤ K) (b : List Int) (hb : ∀ a ∈ b, 0 ≤ a ∧ a ≤ 255) (hl : b.length ≤ 1048576) : GF K b := by
  match b, hb, hl with
  | [], _, _ => exact getFrame0
  | [a], hb, _ => exact getFrame1 hK a (hb a (by simp)).1 (hb a (by simp)).2
  | a :: c :: r, hb, hl => exact getFrame2 hK a c r (hb a (by simp)).1 (hb a (by simp)).2 (hb c (by simp)).1 (hb c (by simp)).2 (by simp at hl; omega)
theorem frames_loop {K : Nat} (hK : maxLen + 2 ≤ K) (x : List Int) (hb : ∀ a ∈ x, 0 ≤ a ∧ a ≤ 255) (hl : x.length ≤ 1048576) : ∀ (q v k : Nat) (o : List y106.T), v + q = x.length → q < k → o.length ≤ v → ∃ (l : List y106.T) (c : Int), L55_3 K k x (v : Int) o = some (l, (c, ())) ∧ L57_2 K k (x.drop v) o = some (l, (c, ())) ∧ l.length ≤ 1048576 := by
  intro q
  induction q using Nat.strongRecOn with
  | _ q ih =>
    intro v k o hv hk ho
    obtain ⟨k, rfl⟩ : ∃ m, k = m + 1 := ⟨k - 1, by omega⟩
    have hdl : ((List.length (x.drop v) : Nat) : Int) = (q : Int) := by rw [List.length_drop]; omega
    rw [L55_3.step, L57_2.step]
    by_cases hq : q = 0
    · have d1 : decide ((v : Int) < ((List.length x : Nat) : Int)) = false := decide_eq_false (by omega)
      have d2 : decide (((List.length (x.drop v) : Nat) : Int) > 0) = false := decide_eq_false (by omega)
      rw [d1, d2, br_f, br_f]
      exact ⟨o, 0, rfl, rfl, by omega⟩
    · have d1 : decide ((v : Int) < ((List.length x : Nat) : Int)) = true := decide_eq_true (by omega)
      have d2 : decide (((List.length (x.drop v) : Nat) : Int) > 0) = true := decide_eq_true (by omega)
      have d3 : (decide (0 ≤ (v : Int)) && decide ((v : Int) ≤ (List.length x : Int))) = true := by simp; omega
      have hdrop : List.drop (Int.toNat (v : Int)) (List.take (List.length x) x) = x.drop v := by rw [Int.toNat_natCast, List.take_length]
      obtain ⟨r, h1, h2, h3⟩ := getFrame hK (x.drop v) (fun a ha => hb a (List.mem_of_mem_drop ha)) (by rw [List.length_drop]; omega)
      rw [d1, d2, br_t, br_t, d3, br_t, hdrop, h1, h2, Option.bind_some, Option.bind_some]
      obtain ⟨f, n, c, u⟩ := r
      by_cases hc : c = 0
      · have hc' : ((c : Int) != 0) = false := by rw [hc]; rfl
        obtain ⟨n1, n2⟩ := h3 hc
        have n1 : (1 : Int) ≤ n := n1
        have n2 : n ≤ ((List.length (x.drop v) : Nat) : Int) := n2
        obtain ⟨N, hN⟩ := Int.eq_ofNat_of_zero_le (Int.le_trans (by decide : (0 : Int) ≤ 1) n1)
        have hN : n = (N : Int) := hN
        subst hN
        have n1 : (1 : Int) ≤ (N : Int) := n1
        have n2 : (N : Int) ≤ (q : Int) := by rw [← hdl]; exact n2
        have d4 : decide ((List.length o + List.length [f]) * 32 ≤ 140737488355328) = true := decide_eq_true (by simp; omega)
        have d5 : (decide (0 ≤ (N : Int)) && decide ((N : Int) ≤ ((List.length (x.drop v) : Nat) : Int))) = true := by rw [hdl]; simp; omega
        show ∃ l c', br ((c : Int) != 0) _ _ = _ ∧ br ((c : Int) != 0) _ _ = _ ∧ _
        rw [hc', br_f, br_f]
        show ∃ l c', br (decide ((List.length o + List.length [f]) * 32 ≤ 140737488355328)) _ _ = _ ∧ br (decide ((List.length o + List.length [f]) * 32 ≤ 140737488355328)) (br (decide (0 ≤ (N : Int)) && decide ((N : Int) ≤ ((List.length (x.drop v) : Nat) : Int))) _ _) _ = _ ∧ _
        rw [d4, br_t, br_t, d5, br_t]
        obtain ⟨l, c', e1, e2, e3⟩ := ih (q - N) (by omega) (v + N) k (o ++ [f]) (by omega) (by omega) (by simp; omega)
        refine ⟨l, c', ?_, ?_, e3⟩
        · rw [← e1]
          show L55_3 K k x (IntKind.wrap .i64 ((v : Int) + (N : Int))) (o ++ [f]) = _
          rw [wrap_id (by omega) (by omega)]; rfl
        · rw [← e2]
          show L57_2 K k (List.drop (Int.toNat (N : Int)) (List.take (List.length (x.drop v)) (x.drop v))) (o ++ [f]) = _
          rw [Int.toNat_natCast, List.take_length, List.drop_drop]
      · have hc' : ((c : Int) != 0) = true := by simpa using hc
        show ∃ l c', br ((c : Int) != 0) _ _ = _ ∧ br ((c : Int) != 0) _ _ = _ ∧ _
        rw [hc', br_t, br_t]
        exact ⟨o, c, rfl, rfl, by omega⟩
end F2
