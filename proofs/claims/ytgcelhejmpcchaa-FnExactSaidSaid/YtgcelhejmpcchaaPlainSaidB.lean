/- Said's plain law, a part: the program's text and the reference's come to the same. -/
import Derived.Test.YtgcelhejmpcchaaPlainSaidA
namespace F2
set_option linter.unusedSimpArgs false
set_option linter.unusedSectionVars false
open Go Go.Fil Go.Proofs
set_option maxRecDepth 100000
set_option linter.unusedVariables false
theorem in_val (K : Nat) (a b c : Int) : g37 K a b c = some (decide (b ≤ a) && decide (a ≤ c)) := by
  rw [g37.eq]
  by_cases h : b ≤ a
  · have h1 : decide ((a : Int) ≥ b) = true := decide_eq_true h
    have h2 : decide (b ≤ a) = true := decide_eq_true h
    rw [h1, br_t, Bool.true_and]
  · have h1 : decide ((a : Int) ≥ b) = false := decide_eq_false h
    have h2 : decide (b ≤ a) = false := decide_eq_false h
    rw [h1, br_f, Bool.false_and]
theorem frame_bad {K : Nat} (f : y106.T) (h1 : f.1 ≠ 1) (h2 : f.1 ≠ 2) (h3 : f.1 ≠ 3) (h4 : f.1 ≠ 4) (h5 : f.1 ≠ 5) (h6 : f.1 ≠ 6) : g106 K f = some false := by
  rw [g106.eq]
  have e1 : ((f.1 : Int) == 1) = false := beq_false_of_ne h1
  have e2 : ((f.1 : Int) == 2) = false := beq_false_of_ne h2
  have e3 : ((f.1 : Int) == 3) = false := beq_false_of_ne h3
  have e4 : ((f.1 : Int) == 4) = false := beq_false_of_ne h4
  have e5 : ((f.1 : Int) == 5) = false := beq_false_of_ne h5
  have e6 : ((f.1 : Int) == 6) = false := beq_false_of_ne h6
  simp only [e1, e2, e3, e4, e5, e6, br_f]
def GF (K : Nat) (b : List Int) : Prop := ∃ r : (Ty.pair y106 (Ty.pair y2 (Ty.pair y2 Ty.unit))).T, g82 K b = some r ∧ g85 K b = some r ∧ (r.2.2.1 = 0 → 1 ≤ r.2.1 ∧ r.2.1 ≤ (b.length : Int))
theorem getFrame0 {K : Nat} : GF K [] := by
  unfold GF
  rw [g82.eq, g85.eq]
  exact ⟨_, rfl, rfl, fun h => absurd h (by decide)⟩
theorem getFrame1 {K : Nat} (hK : maxLen + 2 ≤ K) (a : Int) (h0 : 0 ≤ a) (h255 : a ≤ 255) : GF K [a] := by
  unfold GF
  have hw : IntKind.wrap .i64 a = a := wrap_id (by omega) (by omega)
  have hlen : (([a] : List Int).length : Int) = 1 := rfl
  obtain ⟨t, ht1, ht2⟩ := frameOk_eq hK (a, ((⟨#[]⟩ : ByteArray), (0, ()))) (show (0 : Nat) ≤ 1048576 by decide)
  rw [g82.eq, g85.eq]
  simp only [show List.getD [a] (Int.toNat 0) 0 = a from rfl, hw, in_val, ht1, ht2, Option.bind_some, hlen]
  by_cases h3 : a = 3
  · subst h3
    cases t
    · exact ⟨_, rfl, rfl, fun h => absurd h (by decide)⟩
    · exact ⟨_, rfl, rfl, fun _ => by decide⟩
  · by_cases hr : 1 ≤ a ∧ a ≤ 6
    · have : a = 1 ∨ a = 2 ∨ a = 4 ∨ a = 5 ∨ a = 6 := by omega
      rcases this with rfl | rfl | rfl | rfl | rfl <;> exact ⟨_, rfl, rfl, fun h => absurd h (by decide)⟩
    · have hb := frame_bad (K := K) (a, ((⟨#[]⟩ : ByteArray), (0, ()))) (by show a ≠ 1; omega) (by show a ≠ 2; omega) h3 (by show a ≠ 4; omega) (by show a ≠ 5; omega) (by show a ≠ 6; omega)
      rw [hb] at ht2
      obtain rfl : false = t := Option.some.inj ht2
      have e1 : ((a : Int) == 1) = false := beq_false_of_ne (by omega)
      have e2 : ((a : Int) == 2) = false := beq_false_of_ne (by omega)
      have e3 : ((a : Int) == 3) = false := beq_false_of_ne h3
      have e4 : ((a : Int) == 4) = false := beq_false_of_ne (by omega)
      have e5 : ((a : Int) == 5) = false := beq_false_of_ne (by omega)
      have e6 : ((a : Int) == 6) = false := beq_false_of_ne (by omega)
      have er : (decide (1 ≤ a) && decide (a ≤ 6)) = false := by
        rw [← Bool.not_eq_true, Bool.and_eq_true, decide_eq_true_eq, decide_eq_true_eq]
        exact hr
      simp only [e1, e2, e3, e4, e5, e6, er, br_f, Bool.not_false, br_t]
      exact ⟨_, rfl, rfl, fun h => absurd h (by decide)⟩
end F2
