/- Said's plain law, a part: the program's text and the reference's come to the same. -/
import Derived.Test.YtgcelhejmpcchaaPlainSaidD
namespace F2
set_option linter.unusedSimpArgs false
set_option linter.unusedSectionVars false
open Go Go.Fil Go.Proofs
set_option maxRecDepth 100000
set_option linter.unusedVariables false
theorem said {K : Nat} (hK : maxLen + 2 ≤ K) (x : y46.T) (n : Int) (hl : List.length x.2.2.1 ≤ 1048576) (hx : ∀ s ∈ (x.2.2.1 : List y111.T), (∀ a ∈ (s.2.2.2.2.2.1 : List Int), 0 ≤ a ∧ a ≤ 255) ∧ List.length s.2.2.2.2.2.1 ≤ 1048576) :
    ∃ (l : List y106.T) (b : Bool), g26 K x n = some (l, (b, ())) ∧ g27 K x n = some (l, (b, ())) ∧ l.length ≤ 1048576 := by
  have hm : maxLen = 2 ^ 63 - 1 := rfl
  obtain ⟨i, h1, h2⟩ := idx_run (K := K) x.2.2.1 n hl _ 0 K (Nat.zero_add _) (by omega)
  have e1 : g54 K x.2.2.1 n = some i := by rw [g54.eq]; exact h1
  have e2 : g56 K x.2.2.1 n = some i := by rw [g56.eq, g83.eq, idx_eq]; rw [show L54_2 K K x.2.2.1 n 0 = some i from h1]; rfl
  rw [g26.eq, g27.eq, e1, e2, Option.bind_some, Option.bind_some]
  by_cases hi : i < 0
  · have d : decide ((i : Int) < 0) = true := decide_eq_true hi
    rw [d, br_t, br_t]
    exact ⟨[], false, rfl, rfl, by simp⟩
  · have d : decide ((i : Int) < 0) = false := decide_eq_false hi
    have d2 : (decide (0 ≤ i) && decide (i < (List.length x.2.2.1 : Int))) = true := by simp; omega
    rw [d, br_f, br_f, d2, br_t, br_t]
    obtain ⟨j, hj⟩ := Int.eq_ofNat_of_zero_le (show 0 ≤ i by omega)
    have hj : i = (j : Int) := hj
    subst hj
    have hjl : j < List.length x.2.2.1 := by omega
    have hg : List.getD x.2.2.1 (Int.toNat (j : Int)) y111.zero = (x.2.2.1 : List y111.T)[j] := getD_at hjl _
    obtain ⟨hb, hs⟩ := hx _ (List.getElem_mem hjl)
    obtain ⟨l, c, f1, f2, f3⟩ := frames_loop hK _ hb hs _ 0 K [] (Nat.zero_add _) (by omega) (Nat.le_refl _)
    rw [hg, g55.eq, g57.eq]
    have f1' : L55_3 K K ((x.2.2.1 : List y111.T)[j]).2.2.2.2.2.1 0 [] = some (l, (c, ())) := f1
    have f2' : L57_2 K K ((x.2.2.1 : List y111.T)[j]).2.2.2.2.2.1 [] = some (l, (c, ())) := by rw [List.drop_zero] at f2; exact f2
    rw [f1', f2', Option.bind_some]
    exact ⟨l, _, rfl, rfl, f3⟩
end F2
