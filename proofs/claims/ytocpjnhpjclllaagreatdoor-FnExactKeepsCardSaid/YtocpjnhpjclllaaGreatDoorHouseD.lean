/- The house: the askers' list. -/
import Derived.Test.YtocpjnhpjclllaaGreatDoorHouseC
namespace F5
set_option linter.unusedSimpArgs false
open Go Go.Fil Go.Proofs Go.Fil.Cf
set_option maxRecDepth 100000
set_option linter.unusedVariables false
theorem AkP_next {K : Nat} {h : S_impl_House} {i : Nat} (hi : i < h.2.2.2.2.2.1.length) : (∀ j, i ≤ j → j < h.2.2.2.2.2.1.length → AkP K h j) ↔ AkP K h i ∧ ∀ j, i + 1 ≤ j → j < h.2.2.2.2.2.1.length → AkP K h j := by
  constructor
  · intro g
    exact ⟨g i (Nat.le_refl _) hi, fun j hj hl => g j (by omega) hl⟩
  · rintro ⟨g1, g2⟩ j hj hl
    by_cases e : j = i
    · subst e; exact g1
    · exact g2 j (by omega) hl
theorem found_neg {m : Nat} {id : Nat → Int} {n r : Int} (h : Found m id n r) : r < 0 ↔ ∀ j, j < m → id j ≠ n := by
  constructor
  · intro hr
    rcases h with h | ⟨i, h1, h2, h3⟩
    · exact h.2
    · omega
  · intro g
    rcases h with h | ⟨i, h1, h2, h3⟩
    · exact h.1
    · exact absurd h3 (g i h1)
def A1 (K : Nat) (h : S_impl_House) (i : Nat) : Prop := 0 < i → (akAt h.2.2.2.2.2.1 (i - 1)).1 < (akAt h.2.2.2.2.2.1 i).1
def A2 (K : Nat) (h : S_impl_House) (i : Nat) : Prop := ∀ m, m < h.2.2.2.2.2.2.1.length → (lnAt h.2.2.2.2.2.2.1 m).1 ≠ (akAt h.2.2.2.2.2.1 i).1
def A3 (K : Nat) (h : S_impl_House) (i : Nat) : Prop := (akAt h.2.2.2.2.2.1 i).2.2.1 = 2 → (akAt h.2.2.2.2.2.1 i).2.2.2.1 < h.2.2.2.2.2.2.2.1 ∧ ∀ j', j' < i → (akAt h.2.2.2.2.2.1 j').2.2.1 = 2 → (akAt h.2.2.2.2.2.1 j').2.2.2.1 ≠ (akAt h.2.2.2.2.2.1 i).2.2.2.1
theorem asks_s {K : Nat} (hK : maxLen + 2 ≤ K) (h : S_impl_House) (hs : HS h) {R : Prop} (tail : Says (L_spec_l10Lists_16 K K 0 h) R) : ∀ (q i k : Nat), i + q = h.2.2.2.2.2.1.length → q < k →
    Says (L_spec_l10Lists_2 K k (i : Int) h) ((∀ j, i ≤ j → j < h.2.2.2.2.2.1.length → AkP K h j) ∧ R)
  | 0, i, k + 1, hi, hk => by
    rw [L_spec_l10Lists_2.step, br_false (decide_eq_false (by omega))]
    exact tail.imp ⟨fun g => ⟨fun j h1 h2 => absurd h2 (by omega), g⟩, fun g => g.2⟩
  | q + 1, i, k + 1, hi, hk => by
    have hm : maxLen = 2 ^ 63 - 1 := rfl
    have hla := hs.la
    have hlt : i < h.2.2.2.2.2.1.length := by omega
    have hin : (decide (0 ≤ (i : Int)) && decide ((i : Int) < ((h.2.2.2.2.2.1.length : Nat) : Int))) = true := by simp; omega
    have hA := askOk_s hK (akAt h.2.2.2.2.2.1 i) (hs.a1 _ (akAt_mem hlt)) (hs.a2 _ (akAt_mem hlt))
    have ih := asks_s hK h hs tail q (i + 1) k (by omega) (by omega)
    rw [Int.natCast_add] at ih
    obtain ⟨r, r1, _, r2⟩ := lineAt hK h.2.2.2.2.2.2.1 hs.ll (akAt h.2.2.2.2.2.1 i).1
    have inner : ∀ (p j k' : Nat), j + p = i → p < k' → Says (L_spec_l10Lists_11 K k' k (i : Int) (j : Int) h (akAt h.2.2.2.2.2.1 i)) ((∀ j', j ≤ j' → j' < i → (akAt h.2.2.2.2.2.1 j').2.2.1 = 2 → (akAt h.2.2.2.2.2.1 j').2.2.2.1 ≠ (akAt h.2.2.2.2.2.1 i).2.2.2.1) ∧ (∀ j, i + 1 ≤ j → j < h.2.2.2.2.2.1.length → AkP K h j) ∧ R) := by
      intro p
      induction p with
      | zero =>
        intro j k' hj hk'
        obtain ⟨k', rfl⟩ : ∃ m, k' = m + 1 := ⟨k' - 1, by omega⟩
        rw [L_spec_l10Lists_11.step, br_false (decide_eq_false (by omega)), wrap_id (by omega) (by omega)]
        exact ih.imp ⟨fun g => ⟨fun j' h1 h2 => absurd h2 (by omega), g⟩, fun g => g.2⟩
      | succ p ihp =>
        intro j k' hj hk'
        obtain ⟨k', rfl⟩ : ∃ m, k' = m + 1 := ⟨k' - 1, by omega⟩
        have hin2 : (decide (0 ≤ (j : Int)) && decide ((j : Int) < ((h.2.2.2.2.2.1.length : Nat) : Int))) = true := by simp; omega
        rw [L_spec_l10Lists_11.step, br_true (decide_eq_true (by omega)), hin2, br_t, br_t, show (j : Int).toNat = j by omega, wrap_id (k := (j : Int) + 1) (by omega) (by omega)]
        have nxt := ihp (j + 1) k' (by omega) (by omega)
        rw [Int.natCast_add] at nxt
        have step : ((akAt h.2.2.2.2.2.1 j).2.2.1 = 2 → (akAt h.2.2.2.2.2.1 j).2.2.2.1 ≠ (akAt h.2.2.2.2.2.1 i).2.2.2.1) → (((∀ j', j + 1 ≤ j' → j' < i → (akAt h.2.2.2.2.2.1 j').2.2.1 = 2 → (akAt h.2.2.2.2.2.1 j').2.2.2.1 ≠ (akAt h.2.2.2.2.2.1 i).2.2.2.1) ∧ (∀ j, i + 1 ≤ j → j < h.2.2.2.2.2.1.length → AkP K h j) ∧ R) ↔ ((∀ j', j ≤ j' → j' < i → (akAt h.2.2.2.2.2.1 j').2.2.1 = 2 → (akAt h.2.2.2.2.2.1 j').2.2.2.1 ≠ (akAt h.2.2.2.2.2.1 i).2.2.2.1) ∧ (∀ j, i + 1 ≤ j → j < h.2.2.2.2.2.1.length → AkP K h j) ∧ R)) := by
          intro hj0
          constructor
          · rintro ⟨g1, g2⟩
            refine ⟨fun j' h1 h2 => ?_, g2⟩
            by_cases e : j' = j
            · subst e; exact hj0
            · exact g1 j' (by omega) h2
          · rintro ⟨g1, g2⟩
            exact ⟨fun j' h1 h2 => g1 j' (by omega) h2, g2⟩
        by_cases s2 : (akAt h.2.2.2.2.2.1 j).2.2.1 = 2
        · rw [br_true (beq_true s2)]
          by_cases n2 : (akAt h.2.2.2.2.2.1 j).2.2.2.1 = (akAt h.2.2.2.2.2.1 i).2.2.2.1
          · rw [br_true (beq_true n2)]
            exact Says.f (fun g => g.1 j (Nat.le_refl _) (by omega) s2 n2)
          · rw [br_false (beq_false n2)]
            exact nxt.imp (step (fun _ => n2))
        · rw [br_false (beq_false s2)]
          exact nxt.imp (step (fun e => absurd e s2))
    have rest : Says ((some r).bind fun y => br (decide ((y : Int) ≥ 0)) (some false) (br (((akAt h.2.2.2.2.2.1 i).2.2.1 : Int) == 2) (br (decide ((akAt h.2.2.2.2.2.1 i).2.2.2.1 ≥ h.2.2.2.2.2.2.2.1)) (some false) (L_spec_l10Lists_11 K K k (i : Int) 0 h (akAt h.2.2.2.2.2.1 i))) (L_spec_l10Lists_2 K k ((i : Int) + 1) h))) ((A2 K h i ∧ A3 K h i) ∧ (∀ j, i + 1 ≤ j → j < h.2.2.2.2.2.1.length → AkP K h j) ∧ R) := by
      rw [Option.bind_some]
      refine Says.br (fun c => Says.f (fun g => ?_)) (fun c => ?_)
      · have := (found_neg r2).2 g.1.1
        have c := of_decide_eq_true c
        omega
      · have c := of_decide_eq_false c
        have a2 : A2 K h i := (found_neg r2).1 (by omega)
        refine Says.br (fun c2 => ?_) (fun c2 => ?_)
        · have s2 : (akAt h.2.2.2.2.2.1 i).2.2.1 = 2 := by simpa using c2
          refine Says.br (fun c3 => Says.f (fun g => ?_)) (fun c3 => ?_)
          · have c3 := of_decide_eq_true c3
            have := (g.1.2 s2).1
            omega
          · have c3 := of_decide_eq_false c3
            have := inner i 0 K (by omega) (by omega)
            refine this.imp ⟨fun g => ⟨⟨a2, fun _ => ⟨by omega, fun j' hj' => g.1 j' (by omega) hj'⟩⟩, g.2⟩, fun g => ⟨fun j' _ hj' => (g.1.2 s2).2 j' hj', g.2⟩⟩
        · have s2 : (akAt h.2.2.2.2.2.1 i).2.2.1 ≠ 2 := by simpa using c2
          exact ih.imp ⟨fun g => ⟨⟨a2, fun e => absurd e s2⟩, g⟩, fun g => g.2⟩
    rw [L_spec_l10Lists_2.step, br_true (decide_eq_true (by omega)), hin, br_t, show (i : Int).toNat = i by omega, wrap_id (k := (i : Int) + 1) (by omega) (by omega), wrap_id (k := (i : Int) - 1) (by omega) (by omega), r1, AkP_next hlt]
    have fin : Says (br (decide ((i : Int) > 0)) (br (decide (0 ≤ (i : Int) - 1) && decide ((i : Int) - 1 < ((h.2.2.2.2.2.1.length : Nat) : Int))) (br (decide ((akAt h.2.2.2.2.2.1 ((i : Int) - 1).toNat).1 ≥ (akAt h.2.2.2.2.2.1 i).1)) (some false) ((some r).bind fun y => br (decide ((y : Int) ≥ 0)) (some false) (br (((akAt h.2.2.2.2.2.1 i).2.2.1 : Int) == 2) (br (decide ((akAt h.2.2.2.2.2.1 i).2.2.2.1 ≥ h.2.2.2.2.2.2.2.1)) (some false) (L_spec_l10Lists_11 K K k (i : Int) 0 h (akAt h.2.2.2.2.2.1 i))) (L_spec_l10Lists_2 K k ((i : Int) + 1) h)))) none) ((some r).bind fun y => br (decide ((y : Int) ≥ 0)) (some false) (br (((akAt h.2.2.2.2.2.1 i).2.2.1 : Int) == 2) (br (decide ((akAt h.2.2.2.2.2.1 i).2.2.2.1 ≥ h.2.2.2.2.2.2.2.1)) (some false) (L_spec_l10Lists_11 K K k (i : Int) 0 h (akAt h.2.2.2.2.2.1 i))) (L_spec_l10Lists_2 K k ((i : Int) + 1) h)))) (A1 K h i ∧ (A2 K h i ∧ A3 K h i) ∧ (∀ j, i + 1 ≤ j → j < h.2.2.2.2.2.1.length → AkP K h j) ∧ R) := by
      refine Says.br (fun c => ?_) (fun c => ?_)
      · have c := of_decide_eq_true c
        rw [br_true (by simp; omega), show ((i : Int) - 1).toNat = i - 1 by omega]
        refine Says.br (fun c2 => Says.f (fun g => ?_)) (fun c2 => ?_)
        · have c2 := of_decide_eq_true c2
          have := g.1 (by omega)
          omega
        · have c2 := of_decide_eq_false c2
          exact rest.imp ⟨fun g => ⟨fun _ => by omega, g⟩, fun g => g.2⟩
      · have c := of_decide_eq_false c
        exact rest.imp ⟨fun g => ⟨fun e => absurd e (by omega), g⟩, fun g => g.2⟩
    refine (Says.gate hA (fun _ => fin)).imp ?_
    constructor
    · rintro ⟨g0, g1, ⟨g2, g3⟩, g4, g5⟩
      exact ⟨⟨⟨g0, g1, g2, g3⟩, g4⟩, g5⟩
    · rintro ⟨⟨⟨g0, g1, g2, g3⟩, g4⟩, g5⟩
      exact ⟨g0, g1, ⟨g2, g3⟩, g4, g5⟩
  | _, _, 0, _, h => absurd h (Nat.not_lt_zero _)
end F5
