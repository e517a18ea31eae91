/- The law of Still: it says true. -/
import Derived.Test.YtocpjnhpjclllaaGreatDoorLawW
namespace F5
set_option linter.unusedSimpArgs false
open Go Go.Fil Go.Proofs Go.Fil.Cf
set_option maxRecDepth 100000
set_option linter.unusedVariables false
theorem still2 {K : Nat} (hK : maxLen + 2 ≤ K) (x : S_impl_World) (hl : x.2.2.2.1.length = 2) : ∃ b, L_spec_Still_4 K K 0 x = some b ∧ L_impl_Still_5 K K x 0 0 x = some b := by
  have hm : maxLen = 2 ^ 63 - 1 := rfl
  obtain ⟨r, r1, r2⟩ := serving hK x hl
  obtain ⟨k, hk⟩ : ∃ k, K = k + 1 + 1 + 1 := ⟨K - 3, by omega⟩
  have w1 : IntKind.wrap .i64 ((0 : Int) + 1) = 1 := by decide
  have w2 : IntKind.wrap .i64 ((1 : Int) + 1) = 2 := by decide
  have l2 : (((x.2.2.2.1.length : Nat)) : Int) = 2 := by omega
  have h1 : ∃ b, L_spec_Still_4 K (k + 1 + 1 + 1) 0 x = some b ∧ L_impl_Still_5 K (k + 1 + 1 + 1) x 0 0 x = some b := by
    rw [L_spec_Still_4.step, L_spec_Still_4.step, L_spec_Still_4.step, L_impl_Still_5.step]
    simp only [w1, w2, L_impl_Still_5.step, r1, r2, l2, Option.bind_some]
    simp only [show decide ((0 : Int) < 2) = true from rfl, show decide ((1 : Int) < 2) = true from rfl, show decide ((2 : Int) < 2) = false from rfl, show decide ((0 : Int) ≤ 0) = true from rfl, show decide ((0 : Int) ≤ 1) = true from rfl, show decide ((0 : Nat) ≤ 0) = true from rfl, show decide ((0 : Nat) ≤ 1) = true from rfl, Bool.and_true, Bool.true_and, br_t, br_f, br_some]
    refine ⟨_, rfl, ?_⟩
    congr 1
    generalize (List.getD x.2.2.2.1 (Int.toNat 0) T_impl_House.zero).1 = a
    generalize (List.getD x.2.2.2.1 (Int.toNat 1) T_impl_House.zero).1 = b
    generalize ((r.length : Nat) : Int) = c
    rw [Bool.eq_iff_iff]
    simp only [ite_t, beq_iff_eq, Bool.false_eq_true]
    grind
  rw [← hk] at h1
  exact h1
theorem lawStill {K : Nat} (hK : maxLen + 2 ≤ K) (x : T_laws_World.T) (hB : Bd by_ T_laws_World x) : g_laws_FnExactStill K x = some true := by
  rw [g_laws_FnExactStill.eq]
  exact law_bool hK x hB (g_spec_Still K) (g_impl_Still K) (fun hx => by
    obtain ⟨b, b1, b2, b3⟩ := worldOk hK x hx
    rw [g_spec_Still.eq, g_impl_Still.eq, b1, b2, Option.bind_some, Option.bind_some]
    cases b with
    | false => exact ⟨false, rfl, rfl⟩
    | true =>
      obtain ⟨c, c1, c2⟩ := still2 hK x (b3 rfl)
      rw [br_false (c := !true) rfl, br_false (c := !true) rfl, c1, c2]
      exact ⟨_, by rw [br_some], by rw [br_some]⟩)
#print axioms lawStill
end F5
